/-
  Code, functions, functions that call each other: what the evaluator tells is what the model does.
-/
import Derived.Test.YtkkbnchpedacjaaGreatDoorXf
import Derived.Laws.Externs
import Derived.OpenShut
import Derived.ChangeOld
import Derived.WalkKit
import Derived.ProofKit
import Derived.Below
import Derived.Handed
import Derived.LaidHandle
import Derived.LaidLaws
import Derived.Stop.Joined

namespace Go.X
open Go.RowKit (Below)

theorem fencedW {ro : Option Nat} {P : Program} (m : Machine) : m.fenced P (FW ro) := fenced_wide P m

section loops
variable {ro : Option Nat} {P : Program} {Q : Exit → Act → World → Prop} {a : Act} {w : World}

/-- A loop, right before a round. -/
def LoopWp (ro : Option Nat) (P : Program) (c : Code) (Q : Exit → Act → World → Prop) (a : Act) (w : World) : Prop :=
  ∀ (b : Frame) (k : List Item) (cs : List Frame), b.roundOf = ro → ∃ e a' w', Q e a' w' ∧ ArrivesIn (Machine.fenced P (FW ro)) P (lone (b.atR a (.code c :: .inLoop c :: k)) cs w) b k cs e a' w'

theorem LoopWp.wp {c : Code} (h : LoopWp ro P c Q a w) : (Code.loop c).wpIn (FW ro) 0 P Q a w := by
  intro b k cs hro hb hr
  obtain ⟨e, a', w', hq, harr⟩ := h b k cs hro
  exact ⟨e, a', w', hq, .of_steps (.one (fencedW _) stepR_loop) harr⟩

theorem roomW {n : Nat} : (FW ro).room n := fun _ h => by simp [FW, Fence.wide] at h

theorem LoopWp.round {c : Code} (h : c.wpIn (FW ro) 0 P (Exit.then (LoopWp ro P c Q) Q) a w) : LoopWp ro P c Q a w := by
  intro b k cs hro
  obtain ⟨e, a₁, w₁, hq, harr⟩ := h b (.inLoop c :: k) cs hro trivial roomW
  cases e with
  | normal =>
    obtain ⟨e₂, a₂, w₂, hq₂, harr₂⟩ := hq b k cs hro
    exact ⟨e₂, a₂, w₂, hq₂, .of_steps (StepsIn.trans harr (.one (fencedW _) stepR_inLoop)) harr₂⟩
  | exit id => exact ⟨_, a₁, w₁, hq, .pass (x := .inLoop c) rfl (fun _ _ => .inl (by simp)) harr⟩
  | goto l => exact ⟨_, a₁, w₁, hq, .pass (x := .inLoop c) rfl (fun _ _ => .inl (by simp)) harr⟩
  | ret => exact ⟨_, a₁, w₁, hq, .pass (x := .inLoop c) rfl (fun _ _ => .inl (by simp)) harr⟩
  | panic ch => exact ⟨_, a₁, w₁, hq, .pass (x := .inLoop c) rfl (fun _ _ => .inl (by simp)) harr⟩
  | outgrown => exact ⟨_, a₁, w₁, hq, .pass (x := .inLoop c) rfl (fun _ _ => .inl (by simp)) harr⟩
end loops

section
variable {C : Ctx} {B : Nat} {E0 : Env} {H0 : Heap} {w0 : World}

theorem loop_ok {ro : Option Nat} (h0 : ∀ i bk r, H0.blk i = some bk → r ∈ bk.root.refs → r < C.n0) {m : Nat} {c : Code} {body : St → Option (Ex × St)}
    (hbody : ∀ (s : St) (x : Ex) (s' : St) (E : Env) (a : Act) (w : World) (Q : Exit → Act → World → Prop), IV C B E0 H0 w0 E s a w → body s = some (x, s') → (∀ E' a' w', IV C B E0 H0 w0 E' s' a' w' → Q x.out a' w') → c.wpIn (FW ro) 0 C.P Q a w) :
    ∀ (k : Nat) (s : St) (x : Ex) (s' : St) (E : Env) (a : Act) (w : World) (Q : Exit → Act → World → Prop), IV C B E0 H0 w0 E s a w → loopN (headSt C m) body k s = some (x, s') → (∀ E' a' w', IV C B E0 H0 w0 E' s' a' w' → Q x.out a' w') → LoopWp ro C.P c Q a w
  | 0, s, x, s', E, a, w, Q, hI, h, hn => by simp [loopN] at h
  | k + 1, s, x, s', E, a, w, Q, hI, h, hn => by
    simp only [loopN, Option.bind_eq_some_iff, Prod.exists] at h
    obtain ⟨s1, h1, x1, s2, h2, h3⟩ := h
    obtain ⟨E1, hI1⟩ := head_ok hI h0 h1
    refine LoopWp.round (hbody s1 x1 s2 E1 a w _ hI1 h2 (fun E' a' w' hI' => ?_))
    cases x1 with
    | normal => exact loop_ok h0 hbody k s2 x s' E' a' w' Q hI' h3 hn
    | exit id =>
      obtain ⟨rfl, rfl⟩ := by simpa using h3
      exact hn E' a' w' hI'
    | ret =>
      obtain ⟨rfl, rfl⟩ := by simpa using h3
      exact hn E' a' w' hI'

theorem codeOk_all (fuel B : Nat) : ∀ (c : Code), CodeOk fuel B c := by
  intro c
  induction c with
  | skip =>
    intro C ro E0 H0 w0 cur s x s' E a w Q hm hK h0 hro hok hI h hn
    obtain ⟨rfl, rfl⟩ := by simpa [evalC] using h
    exact wpIn_skip (hn E a w hI)
  | region id ops draw =>
    intro C ro E0 H0 w0 cur s x s' E a w Q hm hK h0 hro hok hI h hn
    simp only [evalC, Option.map_eq_some_iff, Prod.mk.injEq] at h
    obtain ⟨s1, h1, rfl, rfl⟩ := h
    exact region_ok hK hm hok hI h1 (fun E' a' w' hI' => hn E' a' w' hI'.forget)
  | seq c d ihc ihd =>
    intro C ro E0 H0 w0 cur s x s' E a w Q hm hK h0 hro hok hI h hn
    simp only [evalC, Option.bind_eq_some_iff, Prod.exists] at h
    obtain ⟨x1, s1, h1, h2⟩ := h
    simp only [codeOk, Bool.and_eq_true] at hok
    refine wpIn_seq (ihc C ro E0 H0 w0 cur s x1 s1 E a w _ hm hK h0 hro hok.1 hI h1 (fun E' a' w' hI' => ?_))
    cases x1 with
    | normal => exact ihd C ro E0 H0 w0 cur s1 x s' E' a' w' Q hm hK h0 hro hok.2 hI' h2 hn
    | exit id =>
      obtain ⟨rfl, rfl⟩ := by simpa using h2
      exact hn E' a' w' hI'
    | ret =>
      obtain ⟨rfl, rfl⟩ := by simpa using h2
      exact hn E' a' w' hI'
  | cond c t e iht ihe =>
    intro C ro E0 H0 w0 cur s x s' E a w Q hm hK h0 hro hok hI h hn
    simp only [codeOk, Bool.and_eq_true] at hok
    have hv := hI.sr.eval c
    simp only [evalC] at h
    split at h
    · rename_i hc
      rw [hc] at hv
      exact wpIn_cond_true hv.bool_inv (iht C ro E0 H0 w0 cur s x s' E a w Q hm hK h0 hro hok.1 hI h hn)
    · rename_i hc
      rw [hc] at hv
      exact wpIn_cond_false hv.bool_inv (ihe C ro E0 H0 w0 cur s x s' E a w Q hm hK h0 hro hok.2 hI h hn)
    · simp at h
  | block id c ih =>
    intro C ro E0 H0 w0 cur s x s' E a w Q hm hK h0 hro hok hI h hn
    simp only [evalC, Option.map_eq_some_iff, Prod.exists] at h
    obtain ⟨x1, s1, h1, h2⟩ := h
    refine wpIn_block (ih C ro E0 H0 w0 id s x1 s1 E a w _ hm hK h0 hro hok hI h1 (fun E' a' w' hI' => ?_))
    cases x1 with
    | normal =>
      obtain ⟨rfl, rfl⟩ := by simpa using h2
      exact hn E' a' w' hI'
    | exit i =>
      simp only at h2
      simp only [Ex.out, Exit.inBlock]
      split at h2
      · rename_i hi
        obtain ⟨rfl, rfl⟩ := by simpa using h2
        rw [if_pos hi]
        exact hn E' a' w' hI'
      · rename_i hi
        obtain ⟨rfl, rfl⟩ := by simpa using h2
        rw [if_neg hi]
        exact hn E' a' w' hI'
    | ret =>
      obtain ⟨rfl, rfl⟩ := by simpa using h2
      exact hn E' a' w' hI'
  | loop c ih =>
    intro C ro E0 H0 w0 cur s x s' E a w Q hm hK h0 hro hok hI h hn
    simp only [evalC] at h
    exact (loop_ok h0 (fun s x s' E a w Q hI h hn => ih C ro E0 H0 w0 0 s x s' E a w Q hm hK h0 hro hok hI h hn) fuel s x s' E a w Q hI h hn).wp
  | exit i =>
    intro C ro E0 H0 w0 cur s x s' E a w Q hm hK h0 hro hok hI h hn
    obtain ⟨rfl, rfl⟩ := by simpa [evalC] using h
    exact wpIn_exit (hn E a w hI)
  | ret =>
    intro C ro E0 H0 w0 cur s x s' E a w Q hm hK h0 hro hok hI h hn
    obtain ⟨rfl, rfl⟩ := by simpa [evalC] using h
    exact wpIn_ret (hn E a w hI)
  | rangeFunc g ps ca cb iha ihb => exact range_ok iha ihb
  | _ =>
    intro C ro E0 H0 w0 cur s x s' E a w Q hm hK h0 hro hok hI h hn
    simp [evalC] at h

end

/-- A function comes back over its marks. -/
theorem leaves_marks {P : Program} {fn : Func} {tmps : Array Value} {R : Ending → World → Prop} {m : Nat} {I : World → Prop}
    (hstep : ∀ w (D : Nat), I w → m ≤ D → w.heap[D]? = some (Obj.deferred (some [])) → I (w.putObj D (.deferred none)))
    (hend : ∀ w, I w → ∃ v, (results fn tmps).run P w = .ok v w ∧ R (.returned v) w) : ∀ (ds : List Deferred) (w : World), I w → ds.Nodup →
    (∀ d ∈ ds, ∃ D, d = { target := .collected D, args := #[] } ∧ m ≤ D ∧ w.heap[D]? = some (Obj.deferred (some []))) → LeavesInM Fence.wide 0 P fn tmps R ds .returning w
  | [], w, hI, _, _ => hend w hI
  | d :: ds, w, hI, hnd, hds => by
    obtain ⟨D, rfl, hD, hw⟩ := hds _ (List.mem_cons_self)
    obtain ⟨h1, h2⟩ := List.nodup_cons.1 hnd
    refine ⟨by simp, .inl ⟨D, _, rfl, run_takeDeferred hw, ?_⟩⟩
    refine leaves_marks hstep hend ds _ (hstep w D hI hD hw) h2 (fun d' hd' => ?_)
    obtain ⟨D', rfl, hm', hw'⟩ := hds _ (List.mem_cons_of_mem _ hd')
    have hne : D' ≠ D := by
      rintro rfl
      exact h1 hd'
    exact ⟨D', rfl, hm', (World.putObj_heap_other hne).trans hw'⟩

section
variable {P : Program} {B : Nat}

theorem VR.clean {E : Env} {v : AV} {c : Value} (h : VR E v c) : (if v.plain then v else AV.bad) = .bad ∨ PR E (if v.plain then v else AV.bad) c := by
  by_cases hp : v.plain = true
  · rw [if_pos hp]; exact .inr (h.toPR hp)
  · rw [if_neg hp]; exact .inl rfl

/-- What one result reads. -/
def resOf (tmps : Array Value) : ResultVar → Sem Value
  | .tmp t => pure (tmps.getD t undef)
  | .cell a t => do loadVar t (← asAddr (tmps.getD a undef))

theorem results_def (fn : Func) (tmps : Array Value) : results fn tmps = (do
    let vs ← fn.results.mapM (resOf tmps)
    pure (if h : vs.size = 1 then vs[0] else .tuple vs)) := by
  unfold results
  congr 2

theorem load_ptr {E : Env} {H : Heap} {t : TypeId} {x v : AV} {c : Value} (hx : VR E x c) (h : loadAV P H t x = some v) : ∃ ad, c = .pointer (some ad) := by
  cases x with
  | ptr p =>
    obtain ⟨ad, h1, _⟩ := PR.ptr_inv (show PR E (.ptr p) c from hx)
    exact ⟨ad, h1⟩
  | iptr u =>
    obtain ⟨b, o, c1, h1, _⟩ := PR.iptr_inv (show PR E (.iptr u) c from hx)
    exact ⟨_, h1⟩
  | sptr p esz n off len =>
    obtain ⟨cs, h1, rfl⟩ := (show PR E (.sptr p esz n off len) c from hx)
    cases h1 with
    | sptr h2 h3 h4 => cases h4; exact ⟨_, rfl⟩
  | _ => simp [loadAV] at h

theorem results_ok {C : Ctx} {E : Env} {s : St} {a : Act} {w : World} (hR : SR C B E s a w) : ∀ (rs : List ResultVar) (vs : List AV), rs.mapM (resultAV C s) = some vs →
    ∃ cvs : List Value, (rs.mapM (resOf a.tmps)).run C.P w = .ok cvs w ∧ vs.length = cvs.length ∧
      ∀ (i : Nat) (v : AV) (c : Value), vs[i]? = some v → cvs[i]? = some c → VR E v c
  | [], vs, h => by
    obtain rfl : vs = [] := by simpa using h
    exact ⟨[], by simp, rfl, fun i v c hv => by simp at hv⟩
  | r :: rs, vs, h => by
    simp only [List.mapM_cons, Option.bind_eq_bind, Option.pure_def, Option.bind_eq_some_iff] at h
    obtain ⟨v, hv, vs', hvs, h⟩ := h
    obtain rfl := Option.some.inj h
    obtain ⟨cvs, h1, h2, h3⟩ := results_ok hR rs vs' hvs
    have hone : ∃ c, (resOf a.tmps r).run C.P w = .ok c w ∧ VR E v c := by
      cases r with
      | tmp t =>
        obtain rfl : s.get C.A t = v := by simpa [resultAV] using hv
        exact ⟨_, rfl, hR.vals t⟩
      | cell x t =>
        simp only [resultAV] at hv
        obtain ⟨c, k1, k2, _⟩ := load_ok hR.sim (hR.vals x) hv
        obtain ⟨ad, had⟩ := load_ptr (hR.vals x) hv
        refine ⟨c, ?_, .of_PR k2⟩
        show (do loadVar t (← asAddr (a.tmps.getD x undef)) : Sem Value).run C.P w = _
        rw [had] at k1 ⊢
        simpa [Instr.loadAt, Instr.sureAddr, asAddr] using k1
    obtain ⟨c, k1, k2⟩ := hone
    refine ⟨c :: cvs, ?_, by simp [h2], fun i v' c' hv' hc' => ?_⟩
    · rw [List.mapM_cons, Sem.run_bind, k1, Result.andThen_ok, Sem.run_bind, h1, Result.andThen_ok]
      rfl
    · cases i with
      | zero =>
        simp only [List.getElem?_cons_zero, Option.some.injEq] at hv' hc'
        subst hv' hc'
        exact k2
      | succ i => exact h3 i v' c' (by simpa using hv') (by simpa using hc')

theorem look_init (args : List AV) (t : Nat) : ∀ (keys : List Nat), look (initL keys args) t = .bad ∨ look (initL keys args) t = (args[t]?).getD .bad
  | [] => .inl rfl
  | k :: keys => by
    unfold initL
    simp only [List.map_cons, look]
    split
    · rename_i hk
      subst hk
      exact .inr rfl
    · exact look_init args t keys

theorem evalG_ok {U : Out} {ann : FuncId → FAnn} {fuel : Nat} {K : Oracle} {Y : Yld} {Rg : Yld → Oracle} (hK : OracleSound P B U.G K) (hX : ExtSound P B U.X) (hm : P.follows .mixedOrders = true) (hA : ∀ f, funcOk P (ann f) f = true) (hRg : RgSound P B U.G Rg) :
    ∀ f args H v H' e, evalG P U ann fuel K Y Rg f args H = some (v, H', e) → ∀ (E : Env) (w : World) (cargs : List Value), Sim B E H w → GlobOk U.G E → YOk P B Y H.length E w → args.length = cargs.length →
    (∀ (i : Nat) (v : AV) (c : Value), args[i]? = some v → cargs[i]? = some c → VR E v c) →
    Calls P f cargs.toArray w fun en w' => ∃ c E', en = .returned c ∧ Res B H.length E H w v H' e E' w' c := by
  intro f args H v H' e h E w cargs hs hG hYk hlen hv
  simp only [evalG, Option.bind_eq_some_iff, Prod.exists] at h
  obtain ⟨fn, hf, c, hb, x, s1, hev, h⟩ := h
  have hx : (x = .normal ∨ x = .ret) ∧ ∃ vs, fn.results.toList.mapM (resultAV ⟨P, K, H.length, max fn.ntmps args.length, ann f, U, Y, Rg⟩ s1) = some vs ∧
      ∃ H2, sweep s1.H H.length (pickAV vs).refs s1.esc = some H2 ∧
        (pickAV vs) = v ∧ H2 = H' ∧ s1.esc = e := by
    cases x with
    | exit i => simp at h
    | normal =>
      simp only [Option.bind_eq_some_iff, Option.map_eq_some_iff, Prod.mk.injEq] at h
      obtain ⟨vs, h1, H2, h2, h3, h4, h5⟩ := h
      exact ⟨.inl rfl, vs, h1, H2, h2, h3, h4, h5⟩
    | ret =>
      simp only [Option.bind_eq_some_iff, Option.map_eq_some_iff, Prod.mk.injEq] at h
      obtain ⟨vs, h1, H2, h2, h3, h4, h5⟩ := h
      exact ⟨.inr rfl, vs, h1, H2, h2, h3, h4, h5⟩
  obtain ⟨hx, vs, hvs, H2, hsw, hvv, rfl, rfl⟩ := hx
  have h0 : ∀ i bk r, H.blk i = some bk → r ∈ bk.root.refs → r < H.length := fun i bk r hi hr => by
    obtain ⟨L, _, h2, _⟩ := hs.live i bk hi
    rw [← hs.top]
    exact h2.refs_lt r hr
  have hok : codeOk P (ann f) c = true := by
    have := hA f
    unfold funcOk at this
    rw [hf] at this
    simpa [hb] using this
  refine callsIn_wide.1 (callsIn_of_wp_marks (F := Fence.wide) (n := 0) hf hb trivial ?_)
  have hI : IV ⟨P, K, H.length, max fn.ntmps args.length, ann f, U, Y, Rg⟩ B E H w E ⟨initL (ann f).keys args, [], H, false⟩ { tmps := cargs.toArray ++ Array.replicate (fn.ntmps - cargs.toArray.size) undef, defers := [] } w := by
    refine ⟨⟨hs, fun t => ?_, ?_, Nat.le_refl _⟩, Tr.refl _ _ _ _, Marks.nil, fun _ => Sub.refl _ _⟩
    · unfold St.get
      split
      · rcases look_init args t (ann f).keys with h | h
        · simp only [h]; trivial
        · simp only [h]
          cases ha : args[t]? with
          | none => trivial
          | some u =>
            have hlt : t < args.length := (List.getElem?_eq_some_iff.1 ha).1
            have hc : cargs[t]? = some cargs[t] := List.getElem?_eq_getElem (by omega)
            have := hv t u _ ha hc
            have hg : (cargs.toArray ++ Array.replicate (fn.ntmps - cargs.toArray.size) undef).getD t undef = cargs[t] := by
              rw [Array.getD_eq_getD_getElem?, Array.getElem?_append_left (by simp; omega)]
              simp [hc]
            rw [hg]
            exact this
      · trivial
    · simp [hlen]; omega
  have hwp := codeOk_all fuel B c ⟨P, K, H.length, max fn.ntmps args.length, ann f, U, Y, Rg⟩ none E H w 0 _ x s1 E _ w
    (fun e a' w' => e = x.out ∧ ∃ E', IV ⟨P, K, H.length, max fn.ntmps args.length, ann f, U, Y, Rg⟩ B E H w E' s1 a' w') hm ⟨hK, hX, hG, hYk, hRg⟩ h0 (.inl rfl) hok hI hev (fun E' a' w' hI' => ⟨rfl, E', hI'⟩)
  refine wpIn_mono (F := Fence.wide) hwp ?_
  rintro e' a' w' ⟨rfl, E', hI'⟩
  have hfin : LeavesInM Fence.wide 0 P fn a'.tmps (fun en w' => ∃ c E', en = .returned c ∧ Res B H.length E H w v H2 s1.esc E' w' c) a'.defers .returning w' := by
    refine leaves_marks (m := w.heap.size) (I := fun wq => SR ⟨P, K, H.length, max fn.ntmps args.length, ann f, U, Y, Rg⟩ B E' s1 a' wq ∧ Tr B H.length E w E' wq) ?_ ?_ a'.defers w' ⟨hI'.sr, hI'.tr⟩ hI'.marks.1 hI'.marks.2
    · rintro wq D ⟨h1, h2⟩ hD hw
      exact ⟨⟨h1.sim.other (Other.put hw rfl rfl rfl), h1.vals, h1.size, h1.len⟩, h2.put (Nat.le_trans hs.old hD) hD hw rfl rfl⟩
    · rintro wq ⟨hsr, htr⟩
      obtain ⟨cvs, h1, h2, h3⟩ := results_ok hsr _ _ hvs
      have hS := sweep_ok (n0 := H.length) hsr.len hsw
      obtain ⟨k1, k2⟩ := swept_sim hsr.sim hS h0 hI'.sub
      have hval : ∀ c, VR E' v c → VR (E'.cut H2) v c := fun c hvc => by
        refine hvc.evol (k2 _).evol (Nat.le_refl _) (fun r hr => hS.root r (by rw [hvv]; exact hr) ?_)
        rw [← hsr.sim.top]
        exact hvc.refs_lt r hr
      have hres : ∀ c, VR E' v c → Res B H.length E H w v H2 s1.esc (E'.cut H2) wq c := fun c hvc =>
        ⟨k1, hval c hvc, htr.trans (k2 _), hS.low, fun he i hi bk hbk => hI'.sub he i hi bk (hS.blk i bk hbk)⟩
      have hrun : (results fn a'.tmps).run P wq = .ok (if h : cvs.toArray.size = 1 then cvs.toArray[0] else .tuple cvs.toArray) wq := by
        have hma : (fn.results.mapM (resOf a'.tmps)).run P wq = .ok cvs.toArray wq := by
          rw [Array.mapM_eq_mapM_toList]
          simp only [Sem.run_map, h1]
          rfl
        rw [results_def, Sem.run_bind, hma]
        rfl
      refine ⟨_, hrun, _, E'.cut H2, rfl, hres _ ?_⟩
      rw [← hvv]
      match vs, cvs, h2, h3 with
      | [u], [d], _, h3 => exact h3 0 u d rfl rfl
      | [], [], _, h3 => exact ⟨[], rfl, rfl, fun i v c hv => by simp at hv⟩
      | u :: u2 :: us, d :: d2 :: ds, hl, h3 =>
        simp only [List.length_cons] at hl
        rw [dif_neg (by simp)]
        refine ⟨d :: d2 :: ds, rfl, by simpa using hl, fun i v c hv hc => ?_⟩
        simp only [List.getElem?_map, Option.map_eq_some_iff] at hv
        obtain ⟨v0, hv0, rfl⟩ := hv
        exact (h3 i v0 c hv0 hc).clean
  rcases hx with rfl | rfl
  · exact hfin
  · exact hfin

theorem evalI_ok {U : Out} {ann : FuncId → FAnn} {fuel : Nat} {K : Oracle} (hK : OracleSound P B U.G K) (hX : ExtSound P B U.X) (hm : P.follows .mixedOrders = true) (hA : ∀ f, funcOk P (ann f) f = true) : RgSound P B U.G (evalI P U ann fuel K) :=
  fun _ f args H v H' e h => evalG_ok hK hX hm hA RgSound.no f args H v H' e h

theorem evalF_ok {U : Out} {ann : FuncId → FAnn} {fuel : Nat} {K : Oracle} (hK : OracleSound P B U.G K) (hX : ExtSound P B U.X) (hm : P.follows .mixedOrders = true) (hA : ∀ f, funcOk P (ann f) f = true) : OracleSound P B U.G (evalF P U ann fuel K) :=
  fun f args H v H' e h E w cargs hs hG hlen hv => evalG_ok hK hX hm hA (evalI_ok hK hX hm hA) f args H v H' e h E w cargs hs hG YOk.no hlen hv

theorem evalN_ok {U : Out} {ann : FuncId → FAnn} {fuel : Nat} {K : Oracle} (hK : OracleSound P B U.G K) (hX : ExtSound P B U.X) (hm : P.follows .mixedOrders = true) (hA : ∀ f, funcOk P (ann f) f = true) : ∀ n, OracleSound P B U.G (evalN P U ann fuel K n)
  | 0 => hK
  | n + 1 => fun f args H v H' e h => by
    simp only [evalN] at h
    split at h
    · rename_i r hr
      obtain rfl := Option.some.inj h
      exact hK f args H v H' e hr
    · exact evalF_ok (evalN_ok hK hX hm hA n) hX hm hA f args H v H' e h

end
end Go.X
/-
  Functions without a body here: Go's reflectlite, as errors.Is and errors.As need it.
-/
namespace Go.X
open Go.RowKit (Below)
open Go.Extern

/-- What asks of the program alone. -/
def peel (P : Program) {α : Type} : Sem α → Option α
  | .pure a => some a
  | .program k => peel P (k P)
  | .mark _ k => peel P k
  | _ => none

theorem peel_run {P : Program} {α : Type} : ∀ (e : Sem α) (a : α), peel P e = some a → ∀ w, e.run P w = .ok a w := by
  intro e
  induction e with
  | pure b => intro a h w; obtain rfl := Option.some.inj h; rfl
  | program k ih => intro a h w; exact ih P a h w
  | mark m k ih => intro a h w; exact ih a h w
  | _ => intro a h; simp [peel] at h

/-! Values that are what they are, in whatever memory. -/
mutual
def AV.conc : AV → Option Value
  | .int k n => some (.int k n)
  | .bool b => some (.bool b)
  | .str s => some (.string s)
  | .nilp => some (.pointer none)
  | .hnd b t => some (.pointer (some ⟨b, t, none⟩))
  | .nili => some .nilIface
  | .iface t v => (v.conc).map fun c => .iface t c
  | .agg _ ps => (concL ps).map fun l => .agg l.toArray
  | _ => none
def concL : List AV → Option (List Value)
  | [] => some []
  | v :: r => (v.conc).bind fun c => (concL r).map fun l => c.cells.toList ++ l
end

def leafAbs : Value → AV
  | .int k n => .int k n
  | .bool b => .bool b
  | .string s => .str s
  | .pointer none => .nilp
  | .pointer (some ⟨b, o, none⟩) => .hnd b o
  | .nilIface => .nili
  | _ => .bad

def aggAbs : Value → AV
  | .agg cs => let ps := cs.toList.map leafAbs; if ps.all AV.plain then .agg ps.length ps else .bad
  | c => leafAbs c

def reabs : Value → AV
  | .iface t c => if (aggAbs c).plain then .iface t (aggAbs c) else .bad
  | c => aggAbs c

section
variable {P : Program} {B : Nat} {E E' : Env} {H : Heap} {w w' : World}

theorem leafAbs_ok (c : Value) : leafAbs c = .bad ∨ (FR E [leafAbs c] [c] ∧ (leafAbs c).isAgg = false) := by
  unfold leafAbs
  split
  · exact .inr ⟨.int .nil, rfl⟩
  · exact .inr ⟨.bool .nil, rfl⟩
  · exact .inr ⟨.str .nil, rfl⟩
  · exact .inr ⟨.nilp .nil, rfl⟩
  · exact .inr ⟨.hnd .nil, rfl⟩
  · exact .inr ⟨.nili .nil, rfl⟩
  · exact .inl rfl

theorem leaves_abs : ∀ (cs : List Value), (cs.map leafAbs).all AV.plain = true → FR E (cs.map leafAbs) cs
  | [], _ => .nil
  | c :: cs, h => by
    simp only [List.map_cons, List.all_cons, Bool.and_eq_true] at h
    have h1 : FR E [leafAbs c] [c] := by
      rcases leafAbs_ok (E := E) c with h2 | h2
      · rw [h2] at h; simp [AV.plain] at h
      · exact h2.1
    exact FR.append h1 (leaves_abs cs h.2)

theorem aggAbs_ok (c : Value) : aggAbs c = .bad ∨ PR E (aggAbs c) c := by
  unfold aggAbs
  split
  · rename_i cs
    simp only
    split
    · rename_i h
      right
      have h1 := FR.agg (E := E) (n := (cs.toList.map leafAbs).length) (leaves_abs (E := E) cs.toList h) (by simp) .nil
      exact ⟨_, h1, by simp [pack, AV.isAgg]⟩
    · exact .inl rfl
  · rename_i hn
    rcases leafAbs_ok (E := E) c with h | ⟨h1, h2⟩
    · exact .inl h
    · exact .inr ⟨_, h1, by simp [pack, h2]⟩

theorem reabs_ok (c : Value) : VR E (reabs c) c := by
  unfold reabs
  split
  · rename_i t c
    split
    · rename_i h
      rcases aggAbs_ok (E := E) c with h2 | ⟨cs, h2, h3⟩
      · rw [h2] at h; simp [AV.plain] at h
      · exact VR.of_PR (v := .iface t _) ⟨[.iface t (pack (aggAbs c) cs)], .iface h2 .nil, by simp [pack, AV.isAgg] at h3 ⊢; exact h3⟩
    · trivial
  · rcases aggAbs_ok (E := E) c with h2 | h2
    · rw [h2]; trivial
    · exact VR.of_PR h2

theorem FR.conc {vs : List AV} {cs : List Value} (h : FR E vs cs) : ∀ l, concL vs = some l → cs = l := by
  have one : ∀ {c : Value} {v : AV} {vs : List AV} {cs l : List Value}, v.conc = some c → c.cells = #[c] → (∀ l, concL vs = some l → cs = l) → concL (v :: vs) = some l → c :: cs = l := fun {c v vs cs l} h1 h2 ih hl => by
    simp only [concL, h1, Option.bind_some, Option.map_eq_some_iff] at hl
    obtain ⟨l', h3, rfl⟩ := hl
    rw [h2, ih l' h3]
    rfl
  induction h with
  | nil => intro l hl; simpa [concL] using hl
  | int h ih => intro l hl; exact one rfl rfl ih hl
  | bool h ih => intro l hl; exact one rfl rfl ih hl
  | str h ih => intro l hl; exact one rfl rfl ih hl
  | nilp h ih => intro l hl; exact one rfl rfl ih hl
  | hnd h ih => intro l hl; exact one rfl rfl ih hl
  | nili h ih => intro l hl; exact one rfl rfl ih hl
  | iface h1 h ih1 ih =>
    rename_i t v c1 vs cs
    intro l hl
    simp only [concL, AV.conc] at hl
    cases hc : v.conc with
    | none => simp [hc] at hl
    | some c =>
      have h2 := ih1 c.cells.toList (by simp [concL, hc])
      have h3 : pack v c1 = c := by
        subst h2
        have hl1 := h1.length
        unfold pack
        cases v <;> simp only [AV.conc, Option.some.injEq, reduceCtorEq, Option.map_eq_some_iff] at hc <;> first | (subst hc; rfl) | skip
        · obtain ⟨u, _, rfl⟩ := hc; rfl
        · obtain ⟨u, _, rfl⟩ := hc
          simp [AV.isAgg, Value.cells]
      exact one (c := .iface t (pack v c1)) (v := .iface t v) (by simp [AV.conc, hc, h3]) rfl ih (by simpa [concL, AV.conc] using hl)
  | agg h1 hn h ih1 ih =>
    rename_i n ps c1 vs cs
    intro l hl
    simp only [concL, AV.conc] at hl
    cases hc : concL ps with
    | none => simp [hc] at hl
    | some l1 =>
      simp only [hc, Option.map_some, Option.bind_some, Option.map_eq_some_iff] at hl
      obtain ⟨l', h3, rfl⟩ := hl
      rw [ih1 l1 hc, ih l' h3]
      rfl
  | _ => intro l hl; simp [concL, AV.conc] at hl

theorem conc_ok {v : AV} {c d : Value} (h : VR E v c) (hc : v.conc = some d) : c = d := by
  have hp : v.plain = true := by cases v <;> first | rfl | simp [AV.conc] at hc
  obtain ⟨cs, h1, rfl⟩ := h.toPR hp
  have h2 := h1.conc d.cells.toList (by simp [concL, hc])
  subst h2
  unfold pack
  cases v <;> simp only [AV.conc, Option.some.injEq, reduceCtorEq, Option.map_eq_some_iff] at hc <;> first | (subst hc; rfl) | skip
  · obtain ⟨u, _, rfl⟩ := hc; rfl
  · obtain ⟨u, _, rfl⟩ := hc
    simp [AV.isAgg, Value.cells]

theorem concs_ok : ∀ {vs : List AV} {cs ds : List Value}, vs.length = cs.length → (∀ (i : Nat) (v : AV) (c : Value), vs[i]? = some v → cs[i]? = some c → VR E v c) → vs.mapM AV.conc = some ds → cs = ds
  | [], cs, ds, hl, _, h => by
    simp at h
    subst h
    exact List.eq_nil_of_length_eq_zero hl.symm
  | x :: xs, cs, ds, hl, hv, h => by
    cases cs with
    | nil => simp at hl
    | cons c cs =>
      simp only [List.mapM_cons, Option.bind_eq_bind, Option.pure_def, Option.bind_eq_some_iff] at h
      obtain ⟨d, hd, ds', hds, h⟩ := h
      obtain rfl := Option.some.inj h
      have e1 := conc_ok (hv 0 x c rfl rfl) hd
      have e2 := concs_ok (cs := cs) (ds := ds') (by simpa using hl) (fun i v c h1 h2 => hv (i + 1) v c (by simpa using h1) (by simpa using h2)) hds
      rw [e1, e2]

end
end Go.X
/-
  Functions without a body here: Go's reflectlite, as errors.Is and errors.As need it.
-/
namespace Go.X
open Go.RowKit (Below)
open Go.Extern

/-- The entries, by number. -/
def rowOf : Nat → (Array Value → Sem Value)
  | 1 => ReflectliteType.typeOf
  | 2 => ReflectliteType.method ReflectliteType.elem
  | 3 => ReflectliteType.method fun t => do Rtype.noPackHeld "Comparable" t; pure (.bool (← typeInfo t).comparable)
  | 4 => ReflectliteType.relation "Implements" ReflectliteType.implements_
  | 5 => ReflectliteType.relation "AssignableTo" ReflectliteType.assignableTo
  | 7 => ReflectliteType.abiMethod fun t => do pure (.int .u8 (← Rtype.kind t))
  | 10 => fun args => ReflectliteValue.unpack (args.getD 0 (.tuple #[]))
  | 11 => ReflectliteValue.methodAny (ReflectliteValue.valueError "reflectlite.Value.Type" 0) fun t _ _ _ => ReflectliteType.toType t
  | 12 => ReflectliteValue.method (ReflectliteValue.valueError "reflectlite.Value.IsNil" 0) ReflectliteValue.isNil
  | 13 => ReflectliteValue.method (ReflectliteValue.valueError "reflectlite.Value.Elem" 0) ReflectliteValue.elem
  | 14 => ReflectliteValue.set
  | _ => fun _ => .halt .blocked

def extName : Nat → String
  | 1 => "internal/reflectlite.TypeOf"
  | 2 => "(internal/reflectlite.rtype).Elem"
  | 3 => "(internal/reflectlite.rtype).Comparable"
  | 4 => "(internal/reflectlite.rtype).Implements"
  | 5 => "(internal/reflectlite.rtype).AssignableTo"
  | 7 => "(*internal/abi.Type).Kind"
  | 10 => "internal/reflectlite.ValueOf"
  | 11 => "(internal/reflectlite.Value).Type"
  | 12 => "(internal/reflectlite.Value).IsNil"
  | 13 => "(internal/reflectlite.Value).Elem"
  | 14 => "(internal/reflectlite.Value).Set"
  | _ => ""

/-- A reflectlite.Value: its type, where it lies, its flags. -/
def valOf (P : Program) : AV → Option (TypeId × AV × Nat)
  | .agg _ [.hnd b t, p, .int .u64 f] => if b = P.globals.size ∧ 0 < f then
      match p with
      | .ptr p => some (t, .ptr p, f.toNat)
      | .iptr v => some (t, .iptr v, f.toNat)
      | _ => none
    else none
  | _ => none

def isNilAV : AV → Option Bool
  | .nilp => some true
  | .ptr _ => some false
  | .iptr _ => some false
  | .hnd _ _ => some false
  | .nils => some true
  | _ => none

def extAV (P : Program) (k : Nat) (args : List AV) (H : Heap) : Option (AV × Heap × Bool) :=
  match k, args with
  | 1, [.nili] => some (.nili, H, false)
  | 1, [.iface t _] => (peel P (ReflectliteType.toType t)).map fun c => (reabs c, H, false)
  | 10, [.iface t v] => if v.plain then (peel P (Rtype.kind t)).map fun kd =>
      let r := newVarAV H v
      (.agg 3 [.hnd P.globals.size t, r.1, .int .u64 (Int.ofNat (kd + 128 + 0))], r.2, false) else none
  | 11, [x] => (valOf P x).bind fun y => (peel P (ReflectliteType.toType y.1)).map fun c => (reabs c, H, false)
  | 12, [x] => (valOf P x).bind fun y => (peel P (Rtype.noPack "a Value asked or handed on" y.1)).bind fun _ =>
      if y.2.2 % 32 = 22 then (loadAV P H y.1 y.2.1).bind fun u => (isNilAV u).map fun b => (.bool b, H, false) else none
  | 13, [x] => (valOf P x).bind fun y => (peel P (Rtype.noPack "a Value asked or handed on" y.1)).bind fun _ =>
      if y.2.2 % 32 = 22 then (loadAV P H y.1 y.2.1).bind fun u => (peel P (Rtype.elem? y.1)).bind fun e => match u, e with
        | .ptr q, some e => (peel P (Rtype.kind e)).map fun kd => (.agg 3 [.hnd P.globals.size e, .ptr q, .int .u64 (Int.ofNat (kd + 128 + 256))], H, false)
        | _, _ => none
      else none
  | 14, [x, z] => (valOf P x).bind fun y => (valOf P z).bind fun y2 =>
      (peel P (Rtype.noPack "a Value asked or handed on" y.1)).bind fun _ => (peel P (Rtype.noPack "a Value asked or handed on" y2.1)).bind fun _ =>
      if y.2.2 / 256 % 2 = 0 then none else (loadAV P H y2.1 y2.2.1).bind fun val => (peel P (Rtype.directlyAssignable y.1 y2.1)).bind fun d =>
      if d then (storeAV P H y.1 y.2.1 val).map fun H' => (.bad, H', !val.refless) else none
  | 1, _ => none
  | 10, _ => none
  | 11, _ => none
  | 12, _ => none
  | 13, _ => none
  | 14, _ => none
  | k, args => (args.mapM AV.conc).bind fun cs => (peel P (rowOf k cs.toArray)).map fun c => (reabs c, H, false)

def extX (P : Program) (tab : List (Nat × Nat)) : Oracle := fun f args H => match tab.lookup f with
  | some k => extAV P k args H
  | none => none

/-- What is asked of the table of a program's entries. -/
def TabSound (P : Program) (tab : List (Nat × Nat)) : Prop :=
  ∀ x ∈ tab, ∃ fn, P.funcs[x.1]? = some fn ∧ (fn.name == "runtime.NumGoroutine") = false ∧ fn.body.isNone = true ∧ Extern.findNext fn = none ∧ Extern.find fn = some (rowOf x.2)

section
variable {P : Program} {B : Nat} {E E' : Env} {H : Heap} {w w' : World}

theorem valOf_ok {x : AV} {c : Value} (h : VR E x c) {t : TypeId} {p : AV} {f : Nat} (hv : valOf P x = some (t, p, f)) :
    ∃ ad, c = .agg #[.pointer (some ⟨P.globals.size, t, none⟩), .pointer (some ad), .int .u64 (f : Int)] ∧ VR E p (.pointer (some ad)) ∧ 0 < f := by
  unfold valOf at hv
  split at hv
  · rename_i n b t' p' f'
    split at hv
    · rename_i hc
      obtain ⟨rfl, hf⟩ := hc
      obtain ⟨cs, h1, rfl⟩ := (show PR E (.agg n [.hnd _ t', p', .int .u64 f']) c from h)
      cases h1 with
      | agg g1 g2 g3 =>
      cases g3
      obtain ⟨a1, a2, rfl, k1, k2⟩ := g1.cons_inv
      obtain ⟨b1, b2, rfl, k3, k4⟩ := k2.cons_inv
      cases k1 with
      | hnd k1 =>
      cases k1
      cases k4 with
      | int k4 =>
      cases k4
      have hnat : ((f'.toNat : Nat) : Int) = f' := Int.toNat_of_nonneg (by omega)
      split at hv
      · simp only [Option.some.injEq, Prod.mk.injEq] at hv
        obtain ⟨rfl, rfl, rfl⟩ := hv
        cases k3 with
        | ptr q1 q2 q3 =>
        cases q3
        refine ⟨_, ?_, VR.of_PR (v := .ptr _) ⟨[_], .ptr q1 q2 .nil, rfl⟩, by omega⟩
        simp [pack, AV.isAgg, hnat]
      · simp only [Option.some.injEq, Prod.mk.injEq] at hv
        obtain ⟨rfl, rfl, rfl⟩ := hv
        cases k3 with
        | iptr q1 q2 q3 q4 =>
        cases q4
        refine ⟨_, ?_, VR.of_PR (v := .iptr _) ⟨[_], .iptr q1 q2 q3 .nil, rfl⟩, by omega⟩
        simp [pack, AV.isAgg, hnat]
      · simp at hv
    · simp at hv
  · simp at hv

theorem parts_run {t : TypeId} {ad : Addr} {f : Nat} (hf : 0 < f) (w : World) :
    (ReflectliteValue.partsAny (.agg #[.pointer (some ⟨P.globals.size, t, none⟩), .pointer (some ad), .int .u64 (f : Int)])).run P w = .ok (some (t, ad, f)) w := by
  obtain ⟨n, rfl⟩ : ∃ n, f = n + 1 := ⟨f - 1, by omega⟩
  have h1 : ReflectliteValue.partsAny (.agg #[.pointer (some ⟨P.globals.size, t, none⟩), .pointer (some ad), .int .u64 ((n + 1 : Nat) : Int)]) =
      (do pure (some (← Rtype.ofHandle (.pointer (some ⟨P.globals.size, t, none⟩)), ad, ((n + 1 : Nat) : Int).toNat))) := rfl
  have h2 : (Rtype.ofHandle (.pointer (some ⟨P.globals.size, t, none⟩))).run P w = .ok t w := by
    simp [Rtype.ofHandle, handleType]
  rw [h1]
  simp only [Sem.run_bind, h2, Result.andThen_ok, Sem.run_pure]
  rfl


theorem methodAny_run {z : Sem Value} {f : TypeId → Addr → Nat → Nat → Sem Value} {v : Value} {t : TypeId} {a : Addr} {fl : Nat} (h : (ReflectliteValue.partsAny v).run P w = .ok (some (t, a, fl)) w) :
    (ReflectliteValue.methodAny z f #[v]).run P w = (f t a fl (fl % 32)).run P w := by
  have h1 : ReflectliteValue.methodAny z f #[v] = (ReflectliteValue.partsAny v >>= fun r => match r with | none => z | some (t, a, fl) => f t a fl (fl % 32)) := rfl
  rw [h1, Sem.run_bind, h]
  rfl

theorem parts_some {v : Value} {t : TypeId} {a : Addr} {fl : Nat} (h : (ReflectliteValue.partsAny v).run P w = .ok (some (t, a, fl)) w) (hn : (Rtype.noPack "a Value asked or handed on" t).run P w = .ok () w) :
    (ReflectliteValue.parts v).run P w = .ok (some (t, a, fl)) w := by
  have h1 : ReflectliteValue.parts v = (ReflectliteValue.partsAny v >>= fun r => match r with | some (t, a, fl) => (Rtype.noPack "a Value asked or handed on" t >>= fun _ => pure (some (t, a, fl))) | none => pure none) := rfl
  rw [h1, Sem.run_bind, h, Result.andThen_ok]
  simp only [Sem.run_bind, hn, Result.andThen_ok]
  rfl

theorem method_run {z : Sem Value} {f : TypeId → Addr → Nat → Nat → Sem Value} {v : Value} {t : TypeId} {a : Addr} {fl : Nat} (h : (ReflectliteValue.partsAny v).run P w = .ok (some (t, a, fl)) w) (hn : (Rtype.noPack "a Value asked or handed on" t).run P w = .ok () w) :
    (ReflectliteValue.method z f #[v]).run P w = (f t a fl (fl % 32)).run P w := by
  have h1 : ReflectliteValue.method z f #[v] = (ReflectliteValue.parts v >>= fun r => match r with | none => z | some (t, a, fl) => f t a fl (fl % 32)) := rfl
  rw [h1, Sem.run_bind, parts_some h hn]
  rfl

theorem set_run {x z : Value} {t t2 : TypeId} {a b : Addr} {f f2 : Nat} {cval : Value} {w' : World} (h : (ReflectliteValue.parts x).run P w = .ok (some (t, a, f)) w) (h2 : (ReflectliteValue.parts z).run P w = .ok (some (t2, b, f2)) w)
    (hf : (f / ReflectliteValue.flagAddr % 2 == 0) = false) (hl : (loadVar t2 b).run P w = .ok cval w) (hd : (Rtype.directlyAssignable t t2).run P w = .ok true w) (hs : (storeVar t a cval).run P w = .ok () w') :
    (ReflectliteValue.set #[x, z]).run P w = .ok (.tuple #[]) w' := by
  have h1 : ReflectliteValue.set #[x, z] = (ReflectliteValue.parts x >>= fun r1 => ReflectliteValue.parts z >>= fun r2 => match (r1, r2) with
      | (some (dst, a, fl), some (src, b, _)) => (do
        if fl / ReflectliteValue.flagAddr % 2 == 0 then unsupported (.noEntry "extern/(internal/reflectlite.Value).Set.unaddressable")
        let val ← loadVar src b
        if ← Rtype.directlyAssignable dst src then storeVar dst a val
        else if ← Rtype.implements dst src then
          if (← Rtype.kind src) == 20 then
            match val with
            | .nilIface => unsupported (.noEntry "extern/reflectlite: a nil value of one interface type handed on as a value of another")
            | _ => storeVar dst a val
          else storeVar dst a (.iface src val)
        else panicString ("reflectlite.Set: value of type " ++ (← Rtype.spelt src) ++ " is not assignable to type " ++ (← Rtype.spelt dst))
        pure (.tuple #[]))
      | _ => unsupported (.noEntry "extern/(internal/reflectlite.Value).Set.zeroValue")) := rfl
  rw [h1, Sem.run_bind, h, Result.andThen_ok, Sem.run_bind, h2, Result.andThen_ok]
  simp [hf, hl, hd, hs]

theorem mk_run {t : TypeId} {kd : Nat} {a : Addr} {fl : Nat} (h : peel P (Rtype.kind t) = some kd) (w : World) :
    (ReflectliteValue.mk t a fl).run P w = .ok (.agg #[.pointer (some ⟨P.globals.size, t, none⟩), .pointer (some a), .int .u64 (Int.ofNat (kd + 128 + fl))]) w := by
  have h1 := peel_run _ _ h w
  have h2 : (Rtype.handle t).run P w = .ok (.pointer (some ⟨P.globals.size, t, none⟩)) w := by
    simp [Rtype.handle, typeHandle]
  unfold ReflectliteValue.mk
  simp [Sem.run_bind, h1, h2, ReflectliteValue.flagIndir]

theorem val_vr {t : TypeId} {p : Pl} {ad : Addr} {f : Int} (hp : VR E (.ptr p) (.pointer (some ad))) :
    VR E (.agg 3 [.hnd P.globals.size t, .ptr p, .int .u64 f]) (.agg #[.pointer (some ⟨P.globals.size, t, none⟩), .pointer (some ad), .int .u64 f]) := by
  obtain ⟨cs, h1, h2⟩ := (show PR E (.ptr p) _ from hp)
  have h3 := h1.length
  simp only [sumLen, AV.flatLen, Nat.add_zero] at h3
  obtain ⟨c, rfl⟩ := List.length_eq_one_iff.1 h3
  have hc : c = .pointer (some ad) := by simpa [pack, AV.isAgg] using h2.symm
  subst hc
  have hf : FR E [.hnd P.globals.size t, .ptr p, .int .u64 f] [.pointer (some ⟨P.globals.size, t, none⟩), .pointer (some ad), .int .u64 f] :=
    .hnd (FR.append h1 (.int .nil))
  have := FR.agg (n := 3) hf rfl .nil
  exact VR.of_PR (v := .agg 3 _) ⟨_, this, by simp [pack, AV.isAgg]⟩

theorem isNil_run {u : AV} {c : Value} {b : Bool} (h : VR E u c) (hb : isNilAV u = some b) : (match c with | .chan none | .nilFunc | .nilIface | .map none | .pointer none | .slice none _ _ => (pure (.bool true) : Sem Value) | _ => pure (.bool false)) = pure (.bool b) := by
  cases u <;> simp only [isNilAV, Option.some.injEq, reduceCtorEq] at hb <;> subst hb
  · obtain ⟨cs, h1, rfl⟩ := (show PR E .nilp c from h)
    cases h1 with | nilp h1 => cases h1; rfl
  · obtain ⟨ad, rfl, _⟩ := PR.ptr_inv (show PR E (.ptr _) c from h)
    rfl
  · obtain ⟨b, o, c1, rfl, _⟩ := PR.iptr_inv (show PR E (.iptr _) c from h)
    rfl
  · obtain ⟨cs, h1, rfl⟩ := (show PR E .nils c from h)
    cases h1 with | nils h1 => cases h1; rfl
  · obtain ⟨cs, h1, rfl⟩ := (show PR E (.hnd _ _) c from h)
    cases h1 with | hnd h1 => cases h1; rfl

theorem loadVar_run {t : TypeId} {ad : Addr} {c : Value} (h : (Instr.loadAt t (.pointer (some ad))).run P w = .ok c w) : (loadVar t ad).run P w = .ok c w := by
  simpa [Instr.loadAt, Instr.sureAddr] using h

theorem extAV_ok {n0 : Nat} {k : Nat} {args : List AV} {v : AV} {H' : Heap} {e : Bool} (h : extAV P k args H = some (v, H', e)) (hs : Sim B E H w) (hn : n0 ≤ H.length) {cargs : List Value} (hl : args.length = cargs.length)
    (hv : ∀ (i : Nat) (v : AV) (c : Value), args[i]? = some v → cargs[i]? = some c → VR E v c) :
    ∃ c w' E', (rowOf k cargs.toArray).run P w = .ok c w' ∧ Res B n0 E H w v H' e E' w' c := by
  have one : ∀ {x : AV}, args = [x] → ∃ cx, cargs = [cx] ∧ VR E x cx := fun {x} hx => by
    subst hx
    match cargs, hl with
    | [cx], _ => exact ⟨cx, rfl, hv 0 x cx rfl rfl⟩
  unfold extAV at h
  split at h
  · -- TypeOf, nil
    obtain ⟨rfl, rfl, rfl⟩ := by simpa using h
    obtain ⟨cx, rfl, hx⟩ := one rfl
    obtain ⟨cs, h1, rfl⟩ := (show PR E .nili cx from hx)
    cases h1 with
    | nili h1 =>
    cases h1
    exact ⟨.nilIface, w, E, rfl, Res.same hs (VR.of_PR (v := .nili) ⟨_, .nili .nil, rfl⟩)⟩
  · rename_i t u
    simp only [Option.map_eq_some_iff, Prod.mk.injEq] at h
    obtain ⟨c, hc, rfl, rfl, rfl⟩ := h
    obtain ⟨cx, rfl, hx⟩ := one rfl
    obtain ⟨cu, rfl, _⟩ := PR.iface_inv (show PR E (.iface t u) cx from hx)
    exact ⟨c, w, E, peel_run _ _ hc w, Res.same hs (reabs_ok c)⟩
  · -- ValueOf
    rename_i t u
    split at h
    · rename_i hp
      simp only [Option.map_eq_some_iff, Prod.mk.injEq] at h
      obtain ⟨kd, hkd, rfl, rfl, rfl⟩ := h
      obtain ⟨cx, rfl, hx⟩ := one rfl
      obtain ⟨cu, rfl, hu⟩ := PR.iface_inv (show PR E (.iface t u) cx from hx)
      obtain ⟨h1, h2⟩ := newVar_ok (P := P) hs hn (t := t) hu.cells
      refine ⟨.agg #[.pointer (some ⟨P.globals.size, t, none⟩), .pointer (some ⟨w.heap.size, 0, none⟩), .int .u64 (Int.ofNat (kd + 128 + 0))], _, _, ?_, ⟨h2.sim, val_vr h2.val, h2.tr, h2.len, h2.sub⟩⟩
      show (do ReflectliteValue.mk t (← newVar t cu) 0 : Sem Value).run P w = _
      simp only [Sem.run_bind, h1, Result.andThen_ok]
      exact mk_run hkd _
    · simp at h
  · -- Type
    rename_i x
    simp only [Option.bind_eq_some_iff, Option.map_eq_some_iff, Prod.mk.injEq, Prod.exists] at h
    obtain ⟨t, p, f, hx, c, hc, rfl, rfl, rfl⟩ := h
    obtain ⟨cx, rfl, hxv⟩ := one rfl
    obtain ⟨ad, rfl, hp, hf⟩ := valOf_ok hxv hx
    refine ⟨c, w, E, ?_, Res.same hs (reabs_ok c)⟩
    simp only [rowOf]
    rw [methodAny_run (parts_run hf w)]
    exact peel_run _ _ hc w
  · -- IsNil
    rename_i x
    simp only [Option.bind_eq_some_iff, Prod.exists] at h
    obtain ⟨t, p, f, hx, _, hnp, h⟩ := h
    split at h
    · rename_i hk
      simp only [Option.bind_eq_some_iff, Option.map_eq_some_iff, Prod.mk.injEq] at h
      obtain ⟨u, hu, b, hb, rfl, rfl, rfl⟩ := h
      obtain ⟨cx, rfl, hxv⟩ := one rfl
      obtain ⟨ad, rfl, hp, hf⟩ := valOf_ok hxv hx
      obtain ⟨cu, k1, k2, _⟩ := load_ok hs hp hu
      have k3 := loadVar_run k1
      refine ⟨.bool b, w, E, ?_, Res.same hs VR.bool⟩
      have hnp' := peel_run _ _ hnp w
      simp only [rowOf]
      rw [method_run (parts_run hf w) hnp', hk]
      have h22 : ReflectliteValue.isNil t ad f 22 = (loadVar t ad >>= fun c => match c with | .chan none | .nilFunc | .nilIface | .map none | .pointer none | .slice none _ _ => (pure (.bool true) : Sem Value) | _ => pure (.bool false)) := rfl
      rw [h22, Sem.run_bind, k3, Result.andThen_ok, isNil_run (VR.of_PR k2) hb]
      rfl
    · simp at h
  · -- Elem
    rename_i x
    simp only [Option.bind_eq_some_iff, Prod.exists] at h
    obtain ⟨t, p, f, hx, _, hnp, h⟩ := h
    split at h
    · rename_i hk
      simp only [Option.bind_eq_some_iff] at h
      obtain ⟨u, hu, e', he', h⟩ := h
      obtain ⟨cx, rfl, hxv⟩ := one rfl
      obtain ⟨ad, rfl, hp, hf⟩ := valOf_ok hxv hx
      obtain ⟨cu, k1, k2, _⟩ := load_ok hs hp hu
      have k3 := loadVar_run k1
      have hnp' := peel_run _ _ hnp w
      have hel := peel_run _ _ he' w
      split at h
      · rename_i q e2
        simp only [Option.map_eq_some_iff, Prod.mk.injEq] at h
        obtain ⟨kd, hkd, rfl, rfl, rfl⟩ := h
        obtain ⟨ad2, rfl, _⟩ := PR.ptr_inv k2
        refine ⟨_, w, E, ?_, Res.same hs (val_vr (P := P) (VR.of_PR k2))⟩
        simp only [rowOf]
        rw [method_run (parts_run hf w) hnp', hk]
        have hm := mk_run (a := ad2) (fl := ReflectliteValue.flagAddr) hkd w
        have h22 : ReflectliteValue.elem t ad f 22 = (loadVar t ad >>= fun c => Rtype.elem? t >>= fun e => match (22 : Nat), c, e with
          | 20, i, _ => ReflectliteValue.unpack i
          | 22, .pointer none, _ => pure ReflectliteValue.zeroV
          | 22, .pointer (some p), some e => ReflectliteValue.mk e p ReflectliteValue.flagAddr
          | _, _, _ => ReflectliteValue.valueError "reflectlite.Value.Elem" 22) := rfl
        rw [h22, Sem.run_bind, k3, Result.andThen_ok, Sem.run_bind, hel, Result.andThen_ok]
        exact hm
      · simp at h
    · simp at h
  · -- Set
    rename_i x z
    simp only [Option.bind_eq_some_iff, Prod.exists] at h
    obtain ⟨t, p, f, hx, t2, p2, f2, hz, _, hnp, _, hnp2, h⟩ := h
    split at h
    · simp at h
    · rename_i hfl
      simp only [Option.bind_eq_some_iff] at h
      obtain ⟨val, hval, d, hd, h⟩ := h
      split at h
      · rename_i hdt
        subst hdt
        simp only [Option.map_eq_some_iff, Prod.mk.injEq] at h
        obtain ⟨H2, hst, rfl, rfl, rfl⟩ := h
        match cargs, hl with
        | [cx, cz], _ =>
        have hxv := hv 0 x cx rfl rfl
        have hzv := hv 1 z cz rfl rfl
        obtain ⟨ad, rfl, hp, hf⟩ := valOf_ok hxv hx
        obtain ⟨ad2, rfl, hp2, hf2⟩ := valOf_ok hzv hz
        obtain ⟨cval, k1, k2, _⟩ := load_ok hs hp2 hval
        have k3 := loadVar_run k1
        obtain ⟨w', k4, k5⟩ := store_ok (n0 := n0) hs hp (VR.of_PR k2) hst
        have k6 : (storeVar t ad cval).run P w = .ok () w' := by simpa [Instr.storeAt, Instr.sureAddr] using k4
        have hnp' := peel_run _ _ hnp w
        have hnp2' := peel_run _ _ hnp2 w
        have hd' := peel_run _ _ hd w
        have hfl' : (f / ReflectliteValue.flagAddr % 2 == 0) = false := by simpa [ReflectliteValue.flagAddr] using hfl
        refine ⟨.tuple #[], w', E, ?_, ⟨k5.sim, trivial, k5.tr, k5.len, fun he => k5.sub ?_⟩⟩
        · simp only [rowOf]
          exact set_run (parts_some (parts_run hf w) hnp') (parts_some (parts_run hf2 w) hnp2') hfl' k3 hd' k6
        · simp only [Bool.not_eq_false'] at he
          unfold storeFlag escapes
          split <;> simp [he]
      · simp at h
  all_goals first
    | (simp at h; done)
    | skip
  rename_i k' args' _ _ _ _ _ _ _ _ _ _ _ _ _
  simp only [Option.bind_eq_some_iff, Option.map_eq_some_iff, Prod.mk.injEq] at h
  obtain ⟨cs, hcs, c, hc, rfl, rfl, rfl⟩ := h
  have := concs_ok hl hv hcs
  subst this
  exact ⟨c, w, E, peel_run _ _ hc w, Res.same hs (reabs_ok c)⟩

theorem ext_ok {tab : List (Nat × Nat)} (hT : TabSound P tab) : ExtSound P B (extX P tab) := by
  intro f args H v H' e h n0 E w cargs hs hn hl hv
  unfold extX at h
  split at h
  · rename_i k hk
    have hm : (f, k) ∈ tab := by
      clear h
      induction tab with
      | nil => simp at hk
      | cons x l ih =>
        rw [List.lookup_cons] at hk
        split at hk
        · rename_i hx
          have hx' : f = x.1 := by simpa using hx
          obtain rfl := Option.some.inj hk
          rw [hx']
          exact List.mem_cons_self
        · exact List.mem_cons_of_mem _ (ih (fun y hy => hT y (List.mem_cons_of_mem _ hy)) hk)
    obtain ⟨fn, h1, h2, h3, h4, h5⟩ := hT (f, k) hm
    obtain ⟨c, w', E', k1, k2⟩ := extAV_ok (n0 := n0) h hs hn hl hv
    refine ⟨c, w', E', ?_, k2⟩
    rw [run_callFunc_extern h1 h2 h3 h4 h5, k1]
    rfl
  · simp at h

end
end Go.X
/-
  From the evaluator to a call in a world at hand: what came in is read, and never written.
-/
namespace Go.X
open Go.RowKit (Below)

section
variable {P : Program} {W : World}

/-- What came in: every cell as it stands. -/
def Env.start (W : World) : Env := ⟨fun _ => none, fun b o => W.cell? ⟨b, o, none⟩, 0, fun _ => none, 0⟩

theorem Sim.start (W : World) : Sim W.heap.size (Env.start W) [] W :=
  ⟨rfl, fun i bk h => by simp [Heap.blk, blkOf] at h, fun i L h => by simp [Env.start] at h, fun i j Li Lj h => by simp [Env.start] at h, fun b o c h => h, fun b o c _ ⟨i, L, h, _⟩ => by simp [Env.start] at h, fun i bk h => by simp [Heap.blk, blkOf] at h, Nat.le_refl _, fun i es h => by simp [Heap.mp, mpOf] at h, fun i b h => by simp [Env.start] at h, fun i j b h => by simp [Env.start] at h⟩

theorem run_law {U : Out} {ann : FuncId → FAnn} {fuel n : Nat} {K : Oracle} (hK : ∀ B, OracleSound P B U.G K) (hX : ∀ B, ExtSound P B U.X) (hm : P.follows .mixedOrders = true) (hA : ∀ f, funcOk P (ann f) f = true)
    (hG : GlobOk U.G (Env.start W)) {f : FuncId} {args : List AV} {cargs : List Value} {H' : Heap} {e : Bool} (h : evalN P U ann fuel K n f args [] = some (.bool true, H', e)) (hl : args.length = cargs.length)
    (hv : ∀ (i : Nat) (v : AV) (c : Value), args[i]? = some v → cargs[i]? = some c → VR (Env.start W) v c) :
    Calls P f cargs.toArray W fun en w' => en = .returned (.bool true) ∧ Below W.heap.size W w' := by
  refine (evalN_ok (hK W.heap.size) (hX _) hm hA n f args [] _ H' e h (Env.start W) W cargs (Sim.start W) hG hl hv).mono ?_
  rintro en w' ⟨c, E', rfl, hr⟩
  have := hr.val.bool_inv
  subst this
  exact ⟨rfl, hr.tr.below⟩

theorem none_sound (B : Nat) (G : Nat → Option AV) : OracleSound P B G (fun _ _ _ => none) := fun f args H v H' e h => by simp at h

theorem all_ok {ann : FuncId → FAnn} (h : ((List.range P.funcs.size).all fun f => funcOk P (ann f) f) = true) (f : FuncId) : funcOk P (ann f) f = true := by
  rcases Nat.lt_or_ge f P.funcs.size with hlt | hge
  · exact List.all_eq_true.1 h f (List.mem_range.2 hlt)
  · unfold funcOk
    rw [Array.getElem?_eq_none hge]
    rfl

end
end Go.X
/-
  What came in, opened: from the form's reading of an argument ('DataW.trod') an abstract value that stands for it, well typed.
-/
namespace Go.X

def all2 {α β : Type} (R : α → β → Prop) : List α → List β → Prop
  | [], [] => True
  | a :: r, b :: s => R a b ∧ all2 R r s
  | _, _ => False

theorem all2_nil {α β : Type} {R : α → β → Prop} {l : List β} (h : all2 R [] l) : l = [] := by
  cases l with
  | nil => rfl
  | cons b s => exact h.elim

theorem all2_cons {α β : Type} {R : α → β → Prop} {a : α} {r : List α} {l : List β} (h : all2 R (a :: r) l) : ∃ b s, l = b :: s ∧ R a b ∧ all2 R r s := by
  cases l with
  | nil => exact h.elim
  | cons b s => exact ⟨b, s, rfl, h.1, h.2⟩

def fitB (P : Program) : Nat → List Field → Nat → Bool
  | o, [], n => o == n
  | o, f :: r, n => f.offset == o && fitB P (o + P.cellsOf f.type) r n

/-- Types whose values hold no references but slices of such. -/
def plainT (P : Program) : Nat → TypeId → Bool
  | 0, _ => false
  | k + 1, t => match P.underlying t with
    | some .bool | some (.int _) | some .string => P.cellsOf t == 1
    | some (.slice e) => P.cellsOf t == 1 && decide (0 < P.cellsOf e) && plainT P k e
    | some (.struct fs) => fitB P 0 fs.toList (P.cellsOf t) && fs.toList.all fun f => plainT P k f.type
    | some (.array n e) => P.cellsOf t == n * P.cellsOf e && plainT P k e
    | _ => false

/-- Well typed abstract values. -/
def WT (P : Program) : Nat → TypeId → AV → Prop
  | 0, _, _ => False
  | k + 1, t, v => match P.underlying t with
    | some .bool => ∃ b, v = .bool b
    | some (.int i) => ∃ n, v = .int i n ∧ i.min ≤ n ∧ n ≤ i.max
    | some .string => ∃ s, v = .str s ∧ s.size ≤ maxLen
    | some (.slice e) => v = .nils ∨ ∃ xs, v = .isl (P.cellsOf e) xs ∧ xs.length ≤ maxLen ∧ ∀ x ∈ xs, WT P k e x
    | some (.struct fs) => ∃ ps, v = .agg (P.cellsOf t) ps ∧ all2 (fun (f : Field) p => WT P k f.type p) fs.toList ps
    | some (.array n e) => ∃ xs, v = .arr (P.cellsOf e) xs ∧ xs.length = n ∧ ∀ x ∈ xs, WT P k e x
    | _ => False

theorem WT.bool {P : Program} {k : Nat} {t : TypeId} {v : AV} (hu : P.underlying t = some .bool) (h : WT P (k + 1) t v) : ∃ b, v = .bool b := by
  unfold WT at h
  rw [hu] at h
  exact h

theorem WT.int {P : Program} {k : Nat} {t : TypeId} {v : AV} {i : IntKind} (hu : P.underlying t = some (.int i)) (h : WT P (k + 1) t v) : ∃ n, v = .int i n ∧ i.min ≤ n ∧ n ≤ i.max := by
  unfold WT at h
  rw [hu] at h
  exact h

theorem WT.slice {P : Program} {k sz : Nat} {t e : TypeId} {v : AV} (hu : P.underlying t = some (.slice e)) (hc : P.cellsOf e = sz) (h : WT P (k + 1) t v) :
    v = .nils ∨ ∃ xs, v = .isl sz xs ∧ xs.length ≤ maxLen ∧ ∀ x ∈ xs, WT P k e x := by
  unfold WT at h
  rw [hu] at h
  subst hc
  exact h

theorem WT.struct {P : Program} {k n : Nat} {t : TypeId} {fs : Array Field} {v : AV} (hu : P.underlying t = some (.struct fs)) (hc : P.cellsOf t = n) (h : WT P (k + 1) t v) :
    ∃ ps, v = .agg n ps ∧ all2 (fun (f : Field) p => WT P k f.type p) fs.toList ps := by
  unfold WT at h
  rw [hu] at h
  subst hc
  exact h

theorem WT.array {P : Program} {k n sz : Nat} {t e : TypeId} {v : AV} (hu : P.underlying t = some (.array n e)) (hc : P.cellsOf e = sz) (h : WT P (k + 1) t v) :
    ∃ xs, v = .arr sz xs ∧ xs.length = n ∧ ∀ x ∈ xs, WT P k e x := by
  unfold WT at h
  rw [hu] at h
  subst hc
  exact h

section
variable {P : Program} {W : World}

def isAggT (P : Program) (t : TypeId) : Bool := match P.underlying t with
  | some (.struct _) | some (.array _ _) => true
  | _ => false

structure Good (P : Program) (W : World) (k : Nat) (t : TypeId) (v : AV) (cs : List Value) : Prop where
  wt : WT P k t v
  fr : FR (Env.start W) [v] cs
  rl : v.refless = true
  len : v.flatLen = P.cellsOf t
  agg : v.isAgg = isAggT P t
  plain : v.plain = true

theorem Good.clen {k : Nat} {t : TypeId} {v : AV} {cs : List Value} (h : Good P W k t v cs) : cs.length = P.cellsOf t := by
  rw [h.fr.length, AV.flatLen_one, h.len]

theorem mapM_each {α β : Type} {f : α → Option β} : ∀ {l : List α} {ys : List β}, l.mapM f = some ys → ∀ x ∈ l, ∃ y, f x = some y
  | [], _, _, x, hx => by simp at hx
  | a :: l, ys, h, x, hx => by
    simp only [List.mapM_cons, Option.bind_eq_bind, Option.bind_eq_some_iff] at h
    obtain ⟨b, hb, r, hr, _⟩ := h
    rcases List.mem_cons.1 hx with rfl | hx
    · exact ⟨b, hb⟩
    · exact mapM_each hr x hx

theorem cells_spec {base n : Nat} {a : Addr} {l : List Value} (h : W.cells? base a n = some l) : l.length = n ∧ ∀ j c, l[j]? = some c → W.cell? (a.add j) = some c := by
  unfold World.cells? at h
  split at h
  · have key : ∀ n (l : List Value), ((List.range n).mapM fun i => W.cell? (a.add i)) = some l → l.length = n ∧ ∀ j c, l[j]? = some c → W.cell? (a.add j) = some c := by
      intro n
      induction n with
      | zero =>
        intro l h
        simp at h
        subst h
        simp
      | succ n ih =>
        intro l h
        rw [List.range_succ, List.mapM_append] at h
        simp only [Option.bind_eq_bind, Option.bind_eq_some_iff, List.mapM_cons, List.mapM_nil, Option.pure_def, Option.some.injEq] at h
        obtain ⟨l1, h1, l2, ⟨c, hc, l3, h3, hl2⟩, hl⟩ := h
        subst h3 hl2
        subst hl
        obtain ⟨k1, k2⟩ := ih l1 h1
        refine ⟨by simp [k1], fun j c' hj => ?_⟩
        rcases Nat.lt_or_ge j n with hlt | hge
        · rw [List.getElem?_append_left (by omega)] at hj
          exact k2 j c' hj
        · rw [List.getElem?_append_right (by omega)] at hj
          have : j = n := by
            rcases Nat.lt_or_ge (j - l1.length) 1 with h | h
            · omega
            · rw [List.getElem?_eq_none (by simpa using h)] at hj
              simp at hj
          subst this
          simp [k1] at hj
          rw [← hj]
          exact hc
    exact key n l h
  · simp at h

theorem cell_spot {a : Addr} {c : Value} (h : W.cell? a = some c) : a.spot = none := by
  unfold World.cell? at h
  split at h
  · split at h
    · simp at h
    · rename_i h1
      simpa using h1
  · simp at h

theorem add_off (a : Addr) (n : Nat) (h : (a.add n).spot = none) : a.add n = ⟨a.block, a.off + n, none⟩ := by
  unfold Addr.add at h ⊢
  split
  · rename_i hn
    subst hn
    rw [if_pos rfl] at h
    obtain ⟨b, o, s⟩ := a
    simp only at h ⊢
    subst h
    rfl
  · rfl

theorem cell_at {a : Addr} {m j : Nat} {c : Value} (h : W.cell? ((a.add m).add j) = some c) : W.cell? ⟨a.block, a.off + (m + j), none⟩ = some c ∧ (m = 0 → j = 0 → a.spot = none) := by
  have hs := cell_spot h
  have h1 := add_off (a.add m) j hs
  have h2 : (a.add m).block = a.block ∧ (a.add m).off = a.off + m := by
    unfold Addr.add
    split
    · rename_i hm
      simp [hm]
    · simp
  rw [h1, h2.1, h2.2] at h
  refine ⟨by rw [← Nat.add_assoc]; exact h, fun hm hj => ?_⟩
  subst hm hj
  simpa [Addr.add] using hs

/-- Elements that lie side by side. -/
theorem side_by_side {k n : Nat} {e : TypeId} {a : Addr} (hsz : 0 < P.cellsOf e)
    (h : ∀ i, i < n → ∃ v c, Good P W k e v c ∧ ∀ j x, c[j]? = some x → W.cell? ((a.add (i * P.cellsOf e)).add j) = some x) :
    ∃ xs c, xs.length = n ∧ FR (Env.start W) xs c ∧ (∀ x ∈ xs, WT P k e x ∧ x.refless = true ∧ x.flatLen = P.cellsOf e) ∧ (∀ j x, c[j]? = some x → W.cell? ⟨a.block, a.off + j, none⟩ = some x) ∧ (a.spot = none ∨ xs = []) := by
  induction n with
  | zero => exact ⟨[], [], rfl, .nil, by simp, by simp, .inr rfl⟩
  | succ n ih =>
    obtain ⟨xs, c, hl, hf, hx, hc, _⟩ := ih (fun i hi => h i (by omega))
    obtain ⟨v, d, hv, hd⟩ := h n (by omega)
    have hcl : c.length = n * P.cellsOf e := by
      rw [hf.length, sumLen_same (fun x h => (hx x h).2.2), hl, Nat.mul_comm]
    refine ⟨xs ++ [v], c ++ d, by simp [hl], FR.append hf hv.fr, fun x hm => ?_, fun j x hj => ?_, .inl ?_⟩
    · rcases List.mem_append.1 hm with hm | hm
      · exact hx x hm
      · obtain rfl := List.mem_singleton.1 hm
        exact ⟨hv.wt, hv.rl, hv.len⟩
    · rcases Nat.lt_or_ge j c.length with hlt | hge
      · rw [List.getElem?_append_left hlt] at hj
        exact hc j x hj
      · rw [List.getElem?_append_right hge] at hj
        have := (cell_at (hd _ _ hj)).1
        rwa [show n * P.cellsOf e + (j - c.length) = j by omega] at this
    · rcases n with _ | n
      · have hdl := hv.clen
        cases d with
        | nil => simp at hdl; omega
        | cons y d => exact (cell_at (hd 0 y rfl)).2 (by simp) rfl
      · obtain ⟨v0, d0, hv0, hd0⟩ := h 0 (by omega)
        have hdl := hv0.clen
        cases d0 with
        | nil => simp at hdl; omega
        | cons y d => exact (cell_at (hd0 0 y rfl)).2 (by simp) rfl

theorem reflessL_all : ∀ {xs : List AV}, (∀ x ∈ xs, x.refless = true) → reflessL xs = true
  | [], _ => rfl
  | x :: xs, h => by simp [reflessL, h x (List.mem_cons_self), reflessL_all (fun y hy => h y (List.mem_cons_of_mem _ hy))]

theorem open_ok {H : Type} {enc : TypeId × Value → H} {base : Nat} {spare : Nat → Bool} {held : Bool} : ∀ (k : Nat) (t : TypeId) (fuel : Nat) (cs : List Value) (r : DataW H × List MemPlace),
    plainT P k t = true → DataW.trod enc P W base spare held fuel t cs = some r → ∃ v, Good P W k t v cs
  | 0, t, fuel, cs, r, hp, h => by simp [plainT] at hp
  | k + 1, t, 0, cs, r, hp, h => by simp [DataW.trod] at h
  | k + 1, t, fuel + 1, cs, r, hp, h => by
    have IH := fun t' cs' r' hp' h' => open_ok (H := H) (enc := enc) (base := base) (spare := spare) (held := held) k t' fuel cs' r' hp' h'
    simp only [plainT] at hp
    split at hp
    · rename_i hu
      have h1 : P.cellsOf t = 1 := by simpa using hp
      simp only [DataW.trod, hu] at h
      split at h <;> simp_all
      rename_i b
      exact ⟨.bool b, by simp [WT, hu], .bool .nil, rfl, by simp [AV.flatLen, h1], by simp [isAggT, hu, AV.isAgg], rfl⟩
    · rename_i i hu
      have h1 : P.cellsOf t = 1 := by simpa using hp
      simp only [DataW.trod, hu] at h
      split at h <;> simp_all
      rename_i kk k' n hk
      obtain ⟨⟨rfl, hw⟩, _⟩ := h
      refine ⟨.int k' n, ?_, .int .nil, rfl, by simp [AV.flatLen, h1], by simp [isAggT, hu, AV.isAgg], rfl⟩
      simp only [Lit.wf, Bool.and_eq_true, decide_eq_true_eq] at hw
      simp [WT, hu, hw]
    · rename_i hu
      have h1 : P.cellsOf t = 1 := by simpa using hp
      simp only [DataW.trod, hu] at h
      split at h <;> simp_all
      rename_i s
      exact ⟨.str s, by simp [WT, hu, h.1], .str .nil, rfl, by simp [AV.flatLen, h1], by simp [isAggT, hu, AV.isAgg], rfl⟩
    · rename_i e hu
      simp only [Bool.and_eq_true, beq_iff_eq, decide_eq_true_eq] at hp
      obtain ⟨⟨h1, hsz⟩, hpe⟩ := hp
      simp only [DataW.trod, hu] at h
      split at h <;> simp_all
      · exact ⟨.nils, by simp [WT, hu], .nils .nil, rfl, by simp [AV.flatLen, h1], by simp [isAggT, hu, AV.isAgg], rfl⟩
      · rename_i e' a len cap hx1
        obtain ⟨⟨hb, hlc, hcm⟩, h⟩ := h
        simp only [Option.bind_eq_some_iff] at h
        obtain ⟨ys, hys, _⟩ := h
        obtain ⟨xs, c, hl, hf, hx, hc, hsp⟩ := side_by_side (P := P) (W := W) (k := k) (n := len) (a := a) hsz (fun i hi => by
          obtain ⟨y, hy⟩ := mapM_each hys i (List.mem_range.2 hi)
          simp only [Option.bind_eq_some_iff] at hy
          obtain ⟨c, hc, hy⟩ := hy
          obtain ⟨v, hv⟩ := IH _ c y.1 y.2 hpe hy
          exact ⟨v, c, hv, (cells_spec hc).2⟩)
        subst hl
        obtain ⟨ab, ao, as⟩ := a
        refine ⟨.isl (P.cellsOf e') xs, ?_, .isl (reflessL_all fun x h => (hx x h).2.1) hf (fun x h => (hx x h).2.2) hlc hc hsp .nil, rfl, by simp [AV.flatLen, h1], by simp [isAggT, hu, AV.isAgg], rfl⟩
        simp only [WT, hu]
        exact .inr ⟨xs, rfl, by omega, fun x h => (hx x h).1⟩
    · rename_i fs hu
      simp only [Bool.and_eq_true] at hp
      obtain ⟨hfit, hall⟩ := hp
      simp only [DataW.trod, hu] at h
      split at h
      · rename_i hl
        simp only [Option.map_eq_some_iff] at h
        obtain ⟨ys, hys, _⟩ := h
        have key : ∀ (l : List Field) (o : Nat) (ys : List (DataW H × List MemPlace)), fitB P o l (P.cellsOf t) = true → l.all (fun f => plainT P k f.type) = true → o ≤ cs.length →
            (l.mapM fun f => DataW.trod enc P W base spare held fuel f.type ((cs.drop f.offset).take (P.cellsOf f.type))) = some ys →
            ∃ ps, FR (Env.start W) ps (cs.drop o) ∧ all2 (fun (f : Field) p => WT P k f.type p) l ps ∧ reflessL ps = true := by
          intro l
          induction l with
          | nil =>
            intro o ys hfit _ _ _
            simp only [fitB, beq_iff_eq] at hfit
            subst hfit
            rw [← hl, List.drop_length]
            exact ⟨[], .nil, trivial, rfl⟩
          | cons f l ih =>
            intro o ys hfit hall hole hys
            simp only [fitB, Bool.and_eq_true, beq_iff_eq] at hfit
            obtain ⟨ho, hfit⟩ := hfit
            simp only [List.all_cons, Bool.and_eq_true] at hall
            simp only [List.mapM_cons, Option.bind_eq_bind, Option.bind_eq_some_iff] at hys
            obtain ⟨y, hy, r', hr', _⟩ := hys
            obtain ⟨v, hv⟩ := IH _ _ _ hall.1 hy
            have hcl := hv.clen
            rw [ho] at hv hcl
            have hle : o + P.cellsOf f.type ≤ cs.length := by
              rw [List.length_take, List.length_drop] at hcl
              omega
            obtain ⟨ps, k1, k2, k3⟩ := ih _ _ hfit hall.2 hle hr'
            refine ⟨v :: ps, ?_, ⟨hv.wt, k2⟩, by simp [reflessL, hv.rl, k3]⟩
            have := FR.cons hv.fr k1
            rwa [← List.drop_drop, List.take_append_drop] at this
        obtain ⟨ps, k1, k2, k3⟩ := key _ 0 ys hfit hall (Nat.zero_le _) hys
        rw [List.drop_zero] at k1
        refine ⟨.agg (P.cellsOf t) ps, ?_, ?_, by simpa [AV.refless] using k3, rfl, by simp [isAggT, hu, AV.isAgg], rfl⟩
        · simp only [WT, hu]
          exact ⟨ps, rfl, k2⟩
        · have := FR.agg (n := P.cellsOf t) (vs := []) (cs := []) k1 hl.symm .nil
          simpa using this
      · simp at h
    · rename_i n e hu
      simp only [Bool.and_eq_true, beq_iff_eq] at hp
      obtain ⟨hn, hpe⟩ := hp
      simp only [DataW.trod, hu] at h
      split at h
      · rename_i hl
        simp only [Option.map_eq_some_iff] at h
        obtain ⟨ys, hys, _⟩ := h
        have key : ∀ m, m ≤ n → ∃ xs, xs.length = m ∧ FR (Env.start W) xs (cs.take (m * P.cellsOf e)) ∧ ∀ x ∈ xs, WT P k e x ∧ x.refless = true ∧ x.flatLen = P.cellsOf e := by
          intro m
          induction m with
          | zero => intro _; exact ⟨[], rfl, by simpa using FR.nil, by simp⟩
          | succ m ih =>
            intro hm
            obtain ⟨xs, h1, h2, h3⟩ := ih (by omega)
            obtain ⟨y, hy⟩ := mapM_each hys m (List.mem_range.2 (by omega))
            obtain ⟨v, hv⟩ := IH _ _ _ hpe hy
            refine ⟨xs ++ [v], by simp [h1], ?_, fun x hx => ?_⟩
            · have := FR.append h2 hv.fr
              rw [Nat.add_mul, Nat.one_mul, List.take_add]
              exact this
            · rcases List.mem_append.1 hx with hx | hx
              · exact h3 x hx
              · obtain rfl := List.mem_singleton.1 hx
                exact ⟨hv.wt, hv.rl, hv.len⟩
        obtain ⟨xs, h1, h2, h3⟩ := key n (Nat.le_refl _)
        rw [← hn, ← hl, List.take_length] at h2
        refine ⟨.arr (P.cellsOf e) xs, ?_, ?_, by simpa [AV.refless] using reflessL_all fun x h => (h3 x h).2.1, by simp [AV.flatLen, h1, hn, Nat.mul_comm], by simp [isAggT, hu, AV.isAgg], rfl⟩
        · simp only [WT, hu]
          exact ⟨xs, rfl, h1, fun x h => (h3 x h).1⟩
        · have := FR.arr (e := P.cellsOf e) (vs := []) (cs := []) h2 (fun x h => (h3 x h).2.2) .nil
          simpa using this
      · simp at h
    · simp at hp

end
end Go.X
/-
  The shell of a law that says 'true, whatever the input, and the input reads as it did': from an equation about the evaluator to the form's contract.
-/
namespace Go.X
open Go.ChangeShapes Go.WideShapes Go.ChangeAt Go.RowKit

/-- Parameters that can be opened, and read again behind the call. -/
def paramsB (P : Program) (k : Nat) (ts : List TypeId) : Bool := ts.all fun t => plainT P k t && P.readableRec t && decide (t < P.types.size)

section
variable {P : Program} {W : World} {H : Type} {enc : TypeId × Value → H}

theorem Good.vr {k base : Nat} {t : TypeId} {v : AV} {c : Value} (h : Good P W k t v c.cells.toList) (hk : Value.okWide P W .any base t c) : VR (Env.start W) v c := by
  have hp : PR (Env.start W) v c := by
    refine ⟨c.cells.toList, h.fr, ?_⟩
    unfold pack
    rw [h.agg]
    unfold isAggT
    unfold Value.okWide at hk
    split at hk
    · rename_i hu
      obtain ⟨cs, rfl, _⟩ := hk
      simp [hu, Value.cells]
    · rename_i hu
      obtain ⟨cs, rfl, _⟩ := hk
      simp [hu, Value.cells]
    · rename_i h1 h2
      have hn : ∀ cs, c ≠ .agg cs := by
        rintro cs rfl
        unfold Cell.okWide at hk
        split at hk <;> simp_all
        unfold Cell.ok at hk
        split at hk <;> simp_all
      have : c.cells = #[c] := by
        cases c <;> simp_all [Value.cells]
      rw [this]
      split
      · exact (h1 _ ‹_›).elim
      · exact (h2 _ _ ‹_›).elim
      · rfl
  exact .of_PR hp

theorem args_open {k base : Nat} {held : Bool} {b0 : Nat} {spare : Nat → Bool} : ∀ {ts : List TypeId} {cs : List Value} {ds : List (DataW H)} {ps : List MemPlace}, paramsB P k ts = true →
    (∀ (j : Nat) t v, ts[j]? = some t → cs[j]? = some v → Value.okWide P W .any base t v) → DataW.TrodAll enc P W b0 spare held ts cs ds ps →
    ∃ vs, all2 (WT P k) ts vs ∧ vs.length = cs.length ∧ ∀ (i : Nat) (v : AV) (c : Value), vs[i]? = some v → cs[i]? = some c → VR (Env.start W) v c
  | [], cs, ds, ps, _, _, h => by
    obtain ⟨rfl, rfl, rfl⟩ := trodAll_nil h
    exact ⟨[], trivial, rfl, by simp⟩
  | t :: ts, cs, ds, ps, hp, hv, h => by
    obtain ⟨c, cs', d, ds', p, q, rfl, rfl, rfl, h0, r0⟩ := trodAll_cons h
    simp only [paramsB, List.all_cons, Bool.and_eq_true] at hp
    obtain ⟨⟨⟨hpt, _⟩, _⟩, hpr⟩ := hp
    obtain ⟨vs, k1, k2, k3⟩ := args_open (k := k) (ts := ts) (by simpa [paramsB] using hpr) (fun j t' v' h1 h2 => hv (j + 1) t' v' (by simpa using h1) (by simpa using h2)) r0
    obtain ⟨fuel, hf⟩ := h0
    obtain ⟨v, hg⟩ := open_ok k t fuel _ _ hpt hf
    refine ⟨v :: vs, ⟨hg.wt, k1⟩, by simp [k2], fun i v' c' h1 h2 => ?_⟩
    cases i with
    | zero =>
      simp only [List.getElem?_cons_zero, Option.some.injEq] at h1 h2
      subst h1 h2
      exact hg.vr (hv 0 t _ rfl rfl)
    | succ i => exact k3 i v' c' (by simpa using h1) (by simpa using h2)

theorem args_again {k : Nat} {W' : World} (hl : laidOutB P = true) (bel : Below W.heap.size W W') : ∀ {ts : List TypeId} {cs : List Value} {ds : List (DataW H)} {ps : List MemPlace}, paramsB P k ts = true →
    DataW.TrodAll enc P W 0 (fun _ => true) true ts cs ds ps → DataW.TrodAll enc P W' 0 (fun b => decide (b < W.heap.size)) true ts cs ds ps
  | [], cs, ds, ps, _, h => by
    obtain ⟨rfl, rfl, rfl⟩ := trodAll_nil h
    exact trodAll_mk0
  | t :: ts, cs, ds, ps, hp, h => by
    obtain ⟨c, cs', d, ds', p, q, rfl, rfl, rfl, h0, r0⟩ := trodAll_cons h
    simp only [paramsB, List.all_cons, Bool.and_eq_true, decide_eq_true_eq] at hp
    obtain ⟨⟨⟨hpt, hr⟩, hlt⟩, hpr⟩ := hp
    have lt0 : ∀ x ∈ p, x.block < W.heap.size := by obtain ⟨m, hm⟩ := h0; exact DataW.trod_lt m _ _ _ hm
    exact trodAll_cons_mk (Below.trod hl hr hlt h0 bel lt0) (args_again hl bel (by simpa [paramsB] using hpr) r0)

theorem trodAll_length {b0 : Nat} {spare : Nat → Bool} {held : Bool} : ∀ {ts : List TypeId} {cs : List Value} {ds : List (DataW H)} {ps : List MemPlace}, DataW.TrodAll enc P W b0 spare held ts cs ds ps → cs.length = ts.length ∧ ds.length = ts.length
  | [], cs, ds, ps, h => by
    obtain ⟨rfl, rfl, rfl⟩ := trodAll_nil h
    simp
  | t :: ts, cs, ds, ps, h => by
    obtain ⟨c, cs', d, ds', p, q, rfl, rfl, rfl, h0, r0⟩ := trodAll_cons h
    obtain ⟨k1, k2⟩ := trodAll_length r0
    simp [k1, k2]

/-- What the evaluator says of a law: with any arguments of its types it answers true. -/
structure Law (P : Program) (f : FuncId) (ts : List TypeId) (k : Nat) where
  U : Out
  ann : FuncId → FAnn
  fuel : Nat
  n : Nat
  K : Oracle
  sound : ∀ B, OracleSound P B U.G K
  ext : ∀ B, ExtSound P B U.X
  mixed : P.follows .mixedOrders = true
  annOk : ∀ f, funcOk P (ann f) f = true
  run : ∀ vs, all2 (WT P k) ts vs → ∃ H' e, evalN P U ann fuel K n f vs [] = some (.bool true, H', e)

theorem Law.calls {f : FuncId} {ts : List TypeId} {k base : Nat} (L : Law P f ts k) (hp : paramsB P k ts = true) (hG : GlobOk L.U.G (Env.start W)) {args : Array Value} {ds : List (DataW H)} {ps : List MemPlace}
    (hv : ∀ (j : Nat) t v, ts[j]? = some t → args[j]? = some v → Value.okWide P W .any base t v) (h : DataW.TrodAll enc P W 0 (fun _ => true) true ts args.toList ds ps) :
    Calls P f args W fun en w' => en = .returned (.bool true) ∧ Below W.heap.size W w' := by
  obtain ⟨vs, k1, k2, k3⟩ := args_open hp (fun j t v h1 h2 => hv j t v h1 (by simpa using h2)) h
  obtain ⟨H', e, he⟩ := L.run vs k1
  have := run_law (cargs := args.toList) L.sound L.ext L.mixed L.annOk hG he k2 k3
  simpa using this

/-- The contract that the form asks for. -/
theorem Law.post {fn : Func} {b : TypeId} {s : ChangeSpec} {args : Array Value} {ds gs : List (DataW H)} {ps : List MemPlace} {W' : World} {k : Nat} {handsOn : Bool}
    (hr : fn.resultTypes = #[b]) (hb : P.underlying b = some .bool) (hl : laidOutB P = true) (hp : paramsB P k fn.params.toList = true) (hsv : s.vars = [])
    (hsf : ∀ ds : List (DataW H), ds.length = fn.params.size → s.fn H ds = { results := [.lit (.bool true)], args := ds })
    (hW : DataW.Whole enc P fn.params.toList s.vars false W args.toList ds gs ps) (bel : Below W.heap.size W W') : s.post enc P fn false true handsOn false W args (.bool true) W' := by
  have hW' := hW
  obtain ⟨p, q, hA, hV, rfl, hfz, hnd⟩ := hW
  rw [hsv] at hV
  obtain ⟨rfl, rfl⟩ := trodVars_none hV
  have hlen := (trodAll_length hA).2
  have hf : s.fn H (ds ++ []) = { results := [.lit (.bool true)], args := ds } := by
    rw [List.append_nil]
    exact hsf ds (by simpa using hlen)
  refine ⟨ds, [], p ++ [], [], p, [], hW', ?_, ?_, ?_, bel.frame _, fun h => by cases h⟩
  · rw [hf, hr]
    exact trodAll_mk1 ⟨1, by simp [DataW.trod, Value.cells, hb]⟩
  · rw [hf]
    exact args_again hl bel hp hA
  · rw [hf, hsv]
    exact rfl

end

section
variable {C : Checked} {os : Os} {H : Type} {enc : TypeId × Value → H}

/-- The contract of a law, no variable laid. -/
theorem Law.lifted {f : FuncId} {fn : Func} {b : TypeId} {s : ChangeSpec} {conds : List PathCond} {k : Nat} {handsOn : Bool} (L : Law C.prog f fn.params.toList k) (hG : ∀ W, GlobOk L.U.G (Env.start W))
    (own : ownKnob C.prog.godebug = none) (started : os.Started) (noInit : C.prog.inits.idxOf? f = none) (hfn : C.prog.funcs[f]? = some fn)
    (witness : ∃ (w : World) (tape : Tape) (i : Input), w.os = os ∧ (w.forCall tape i).Shaped C.prog ∧ i.vars = [] ∧ Input.okWide C.prog (w.forCall tape i) .any w.heap.size f i ∧
      s.pre6 enc C.prog fn conds false (w.forCall tape i).memory i.args ∧ ({} : Assume).holds C.prog (lone (Frame.enter C.prog f i.args .normal) [] (w.forCall tape i)))
    (hr : fn.resultTypes = #[b]) (hb : C.prog.underlying b = some .bool) (hl : laidOutB C.prog = true) (hp : paramsB C.prog k fn.params.toList = true) (hsv : s.vars = [])
    (hsf : ∀ ds : List (DataW H), ds.length = fn.params.size → s.fn H ds = { results := [.lit (.bool true)], args := ds }) :
    ReturnsInHanded {} C os f .any (s.pre6 enc C.prog fn conds false) (s.post enc C.prog fn false true handsOn false) := by
  refine returnsInHanded_of_change own started noInit hfn witness ?_
  intro W base args ds gs before hval hW _ _
  have hW' := hW
  obtain ⟨p, q, hA, hV, rfl, hfz, hnd⟩ := hW
  refine (L.calls hp (hG W) (fun j t v h1 h2 => hval j t v (by simpa using h1) h2) hA).mono fun e W' ⟨he, bel⟩ => ?_
  subst he
  exact ⟨_, rfl, Law.post hr hb hl hp hsv hsf hW' bel⟩

/-- The contract of a law, with variables laid. -/
theorem Law.lifted_laid {f : FuncId} {fn : Func} {b : TypeId} {s : ChangeSpec} {conds : List PathCond} {k : Nat} {handsOn : Bool} {laid : List (String × DataW Unit)} (L : Law C.prog f fn.params.toList k)
    (hG : ∀ W, laidMetH C.prog laid W → GlobOk L.U.G (Env.start W))
    (own : ownKnob C.prog.godebug = none) (started : os.Started) (noInit : C.prog.inits.idxOf? f = none) (hfn : C.prog.funcs[f]? = some fn)
    (witness : ∃ (w : World) (tape : Tape) (i : Input), w.os = os ∧ (w.forCall tape i).Shaped C.prog ∧ i.vars = [] ∧ Input.okWide C.prog (w.forCall tape i) .any w.heap.size f i ∧
      ((s.pre enc C.prog fn conds false (w.forCall tape i).memory i.args ∧ laidMetH C.prog laid (w.forCall tape i).memory) ∧ sizedMet enc C.prog fn (OpenSpec.ofChange s) false (w.forCall tape i).memory i.args) ∧
      ({} : Assume).holds C.prog (lone (Frame.enter C.prog f i.args .normal) [] (w.forCall tape i)))
    (hr : fn.resultTypes = #[b]) (hb : C.prog.underlying b = some .bool) (hl : laidOutB C.prog = true) (hp : paramsB C.prog k fn.params.toList = true) (hsv : s.vars = [])
    (hsf : ∀ ds : List (DataW H), ds.length = fn.params.size → s.fn H ds = { results := [.lit (.bool true)], args := ds }) :
    ReturnsInHanded {} C os f .any (fun w args => (s.pre enc C.prog fn conds false w args ∧ laidMetH C.prog laid w) ∧ sizedMet enc C.prog fn (OpenSpec.ofChange s) false w args)
      (s.post enc C.prog fn false true handsOn false) := by
  refine returnsInHanded_of_change_and (X := fun w _ => laidMetH C.prog laid w) (fun _ _ _ hh h => laidMetH.of_heap hh h) own started noInit hfn witness ?_
  intro W base args ds gs before hval hW _ _ hL _
  have hW' := hW
  obtain ⟨p, q, hA, hV, rfl, hfz, hnd⟩ := hW
  refine (L.calls hp (hG W hL) (fun j t v h1 h2 => hval j t v (by simpa using h1) h2) hA).mono fun e W' ⟨he, bel⟩ => ?_
  subst he
  exact ⟨_, rfl, Law.post hr hb hl hp hsv hsf hW' bel⟩

/-- A type's handle that is laid: the variable's one cell. -/
theorem handle_of_laid {P : Program} {W : World} {laid : List (String × DataW Unit)} {name : String} {d : DataW Unit} {bytes : List UInt8} {g u ty : Nat} (h : laidMetH P laid W) (hm : (name, d) ∈ laid) (hd : d.funcsIn? = none)
    (hn : d.handleName? = some bytes) (hg : P.globalNamed name = some g) (hu : (P.cutTypes.find? (·.1 == "internal/reflectlite.rtype")).map (·.2) = some u)
    (hone : ((List.range P.types.size).filter fun t => P.rowNamed t bytes) = [ty]) : W.cell? ⟨g, 0, none⟩ = some (.iface u (.agg #[typeHandle P ty])) := by
  have hall : handlesMet P (laid.filter fun x => x.2.handleName?.isSome) W := by
    unfold laidMetH at h
    split at h
    · rename_i he
      have h1 : (name, d) ∈ laid.filter fun x => x.2.handleName?.isSome := List.mem_filter.2 ⟨hm, by rw [show ((name, d).2.handleName? : Option (List UInt8)) = some bytes from hn]; rfl⟩
      rw [he] at h1
      cases h1
    · rename_i a as he
      rw [he]
      exact h.2
  have := hall (name, d) (List.mem_filter.2 ⟨hm, by rw [show ((name, d).2.handleName? : Option (List UInt8)) = some bytes from hn]; rfl⟩)
  rw [show ((name, d).2.funcsIn? : Option (DataW Unit)) = none from hd] at this
  obtain ⟨nm, u', ty', e1, e2, e3, e4, e5⟩ := this
  obtain rfl := Option.some.inj (hn.symm.trans e1)
  obtain rfl := Option.some.inj (hu.symm.trans e2)
  have hx : ty' ∈ (List.range P.types.size).filter fun t => P.rowNamed t bytes := List.mem_filter.2 ⟨List.mem_range.2 e3, e4⟩
  rw [hone] at hx
  obtain rfl := List.mem_singleton.1 hx
  simpa using World.var?_cell hg e5 0

/-- The variable errors.errorType, as a row lays it. -/
theorem GlobOk.handle {P : Program} {W : World} {g u ty : Nat} (h : W.cell? ⟨g, 0, none⟩ = some (.iface u (.agg #[typeHandle P ty]))) :
    GlobOk (fun i => if i = g then some (.iface u (.agg 1 [.hnd P.globals.size ty])) else none) (Env.start W) := by
  intro i v hi
  simp only at hi
  split at hi
  · rename_i hg
    subst hg
    obtain rfl := Option.some.inj hi
    refine .of_PR (v := .iptr _) ⟨[_], .iptr (c1 := [.iface u (.agg #[typeHandle P ty])]) rfl ?_ (fun j c hj => ?_) .nil, rfl⟩
    · have h1 : FR (Env.start W) [.agg 1 [.hnd P.globals.size ty]] [typeHandle P ty] := FR.agg (c1 := [typeHandle P ty]) (.hnd .nil) rfl .nil
      exact FR.iface h1 .nil
    · cases j with
      | zero =>
        simp only [List.getElem?_cons_zero, Option.some.injEq] at hj
        subst hj
        exact h
      | succ j => simp at hj
  · cases hi
end
end Go.X
/-
  Loops of the evaluator, by an invariant; and calls, by what is known of them.
-/
namespace Go.X

theorem loopN_normal {hd : St → Option St} {body : St → Option (Ex × St)} {k : Nat} {s s1 s2 : St} (h1 : hd s = some s1) (h2 : body s1 = some (.normal, s2)) : loopN hd body (k + 1) s = loopN hd body k s2 := by
  simp [loopN, h1, h2]

theorem loopN_leave {hd : St → Option St} {body : St → Option (Ex × St)} {k : Nat} {s s1 s2 : St} {e : Ex} (h1 : hd s = some s1) (h2 : body s1 = some (e, s2)) (he : e ≠ .normal) : loopN hd body (k + 1) s = some (e, s2) := by
  cases e <;> simp_all [loopN]

/-- A loop that counts up to n: at every head the invariant holds; it goes round, or leaves. -/
theorem loop_count {hd : St → Option St} {body : St → Option (Ex × St)} {Inv : Nat → St → Prop} {Post : Ex → St → Prop} {n : Nat}
    (step : ∀ i s, i < n → Inv i s → ∃ s1 e s2, hd s = some s1 ∧ body s1 = some (e, s2) ∧ if e = .normal then Inv (i + 1) s2 else Post e s2)
    (stop : ∀ s, Inv n s → ∃ s1 e s2, hd s = some s1 ∧ body s1 = some (e, s2) ∧ e ≠ .normal ∧ Post e s2) :
    ∀ (m i : Nat) (s : St) (k : Nat), n - i = m → i ≤ n → m < k → Inv i s → ∃ e s', loopN hd body k s = some (e, s') ∧ Post e s'
  | m, i, s, 0, hm, hi, hk, h => by omega
  | 0, i, s, k + 1, hm, hi, hk, h => by
    obtain rfl : i = n := by omega
    obtain ⟨s1, e, s2, h1, h2, h3, h4⟩ := stop s h
    exact ⟨e, s2, loopN_leave h1 h2 h3, h4⟩
  | m + 1, i, s, k + 1, hm, hi, hk, h => by
    obtain ⟨s1, e, s2, h1, h2, h3⟩ := step i s (by omega) h
    by_cases he : e = .normal
    · subst he
      rw [if_pos rfl] at h3
      obtain ⟨e', s', h4, h5⟩ := loop_count step stop m (i + 1) s2 k (by omega) (by omega) (by omega) h3
      exact ⟨e', s', (loopN_normal h1 h2).trans h4, h5⟩
    · rw [if_neg he] at h3
      exact ⟨e, s2, loopN_leave h1 h2 he, h3⟩

end Go.X
