/-
  Each operation: what the evaluator tells is what the model does.
-/
import Derived.Test.YtiiddampachhlaaX17
namespace Go.X
open Go.RowKit (Below)

section
variable {C : Ctx} {B : Nat} {E : Env} {s : St} {a : Act} {w : World}

theorem q_inv {r : Option AV} {v : AV} {H H' : Heap} {e : Bool} (h : (r.map fun v => (v, H, false)) = some (v, H', e)) : r = some v ∧ H' = H ∧ e = false := by
  simp only [Option.map_eq_some_iff, Prod.mk.injEq] at h
  obtain ⟨u, h1, rfl, rfl, rfl⟩ := h
  exact ⟨h1, rfl, rfl⟩

theorem value_wp {P : Program} {o : Oper} {next : Act → World → Prop} {Q : Exit → Act → World → Prop} {c : Value} {w' : World}
    (h : (execOp a.eval o).run P w = .ok (.value c) w') (hn : next (a.put o.dst c) w') : o.wp P a w next Q := by
  unfold Oper.wp
  rw [h]
  exact hn

theorem skip_wp {P : Program} {o : Oper} {next : Act → World → Prop} {Q : Exit → Act → World → Prop} {w' : World}
    (h : (execOp a.eval o).run P w = .ok .skip w') (hn : next (a.put o.dst undef) w') : o.wp P a w next Q := by
  unfold Oper.wp
  rw [h]
  exact hn

theorem value_run {P : Program} {e : Sem Value} {c : Value} {w w' : World} (h : e.run P w = .ok c w') : ((do pure (Next.value (← e))) : Sem Next).run P w = .ok (.value c) w' := by
  simp [h]

theorem parts_ok (hR : SR C B E s a w) : ∀ (ps : List (Nat × Operand)), Parts E (ps.map fun x => (x.1, s.eval C.A x.2)) (ps.map fun (i, x) => (i, a.eval x))
  | [] => .nil
  | (_, x) :: ps => .cons (hR.eval x) (parts_ok hR ps)

theorem leaves_ok (hR : SR C B E s a w) : ∀ (xs : List Operand), (xs.map (s.eval C.A)).all (fun v => v.plain && !v.isAgg) = true → FR E (xs.map (s.eval C.A)) (xs.map a.eval)
  | [], _ => .nil
  | x :: xs, h => by
    simp only [List.map_cons, List.all_cons, Bool.and_eq_true, Bool.not_eq_true'] at h
    have h1 := ((hR.eval x).toPR h.1.1).leaf h.1.2
    exact FR.cons h1 (leaves_ok hR xs (by simpa using h.2))

theorem scal_pure {P : Program} {op : BinOp} {x y : Operand} {t : TypeId} {cx cy : Value} {va vb : AV} (ha : va.scalar = some cx) (hb : vb.scalar = some cy) (w : World) :
    (eqGuard op t x y cx cy).run P w = .ok () w := by
  cases va <;> simp only [AV.scalar, Option.some.injEq, reduceCtorEq] at ha <;> cases vb <;> simp only [AV.scalar, Option.some.injEq, reduceCtorEq] at hb <;> subst ha hb <;>
    (unfold eqGuard; split <;> simp)

/-- A function's call. -/
theorem enter_ok (hk : OracleSound C.P B C.U.G C.K) (hx : ExtSound C.P B C.U.X) (hG : GlobOk C.U.G E) (hR : SR C B E s a w) {o : Oper} {v : AV} {H' : Heap} {e : Bool} {f : FuncId} {args : List AV} {cargs : List Value} (h : enterAV C f args s = some (v, H', e))
    (hlen : args.length = cargs.length) (hv : ∀ (i : Nat) (v : AV) (c : Value), args[i]? = some v → cargs[i]? = some c → VR E v c)
    (hrun : (execOp a.eval o).run C.P w = (callFunc f cargs.toArray).run C.P w)
    {next : Act → World → Prop} {Q : Exit → Act → World → Prop} (hn : ∀ E' w' c, Res B C.n0 E s.H w v H' e E' w' c → next (a.put o.dst c) w') : o.wp C.P a w next Q := by
  unfold enterAV at h
  split at h
  · rename_i fn hf
    split at h
    · rename_i body hb
      split at h
      · rename_i hnm
        have hcall : (callFunc f cargs.toArray).run C.P w = .ok (.enter f cargs.toArray) w := by
          have h2 : ¬ fn.body = none := fun e => by simp [e] at hb
          simp [callFunc, hf, hnm, h2]
        unfold Oper.wp
        rw [hrun, hcall]
        refine (hk f args s.H v H' e h E w cargs hR.sim hG hlen hv).mono ?_
        rintro en w' ⟨c, E', rfl, hr⟩
        exact hn E' w' c ⟨hr.sim, hr.val, hr.tr, hr.len, fun he => (hr.sub he).mono hR.len⟩
      · simp at h
    · obtain ⟨c, w', E', h1, h2⟩ := hx f args s.H v H' e h C.n0 E w cargs hR.sim hR.len hlen hv
      exact value_wp (by rw [hrun]; exact h1) (hn E' w' c h2)
  · simp at h

theorem args_ok (hR : SR C B E s a w) (xs : List Operand) : ∀ (i : Nat) (v : AV) (c : Value), (xs.map (s.eval C.A))[i]? = some v → (xs.map a.eval)[i]? = some c → VR E v c := by
  intro i v c h1 h2
  simp only [List.getElem?_map, Option.map_eq_some_iff] at h1 h2
  obtain ⟨x, hx, rfl⟩ := h1
  obtain ⟨y, hy, rfl⟩ := h2
  obtain rfl : x = y := by rw [hx] at hy; exact Option.some.inj hy
  exact hR.eval x

theorem leaf_list {E : Env} : ∀ {vs : List AV} {cs : List Value}, FR E vs cs → (∀ x ∈ vs, x.isAgg = false) → vs.length = cs.length ∧ ∀ (i : Nat) (v : AV) (c : Value), vs[i]? = some v → cs[i]? = some c → VR E v c
  | [], cs, h, _ => by
    cases h
    exact ⟨rfl, fun i v c hv => by simp at hv⟩
  | x :: vs, cs, h, ha => by
    obtain ⟨c1, c2, rfl, h1, h2⟩ := h.cons_inv
    obtain ⟨c, rfl, hp⟩ := h1.one_leaf (ha x List.mem_cons_self)
    obtain ⟨k1, k2⟩ := leaf_list h2 (fun y hy => ha y (List.mem_cons_of_mem _ hy))
    refine ⟨by simp [k1], fun i v d hv hd => ?_⟩
    cases i with
    | zero =>
      simp only [List.getElem?_cons_zero, Option.some.injEq, List.singleton_append] at hv hd
      subst hv hd
      exact VR.of_PR ⟨[_], h1, hp.symm⟩
    | succ i =>
      simp only [List.getElem?_cons_succ, List.singleton_append] at hv hd
      exact k2 i v d hv hd

theorem append_vals {E : Env} {xs ys : List AV} {cx cy : List Value} (hl : xs.length = cx.length) (hx : ∀ (i : Nat) (v : AV) (c : Value), xs[i]? = some v → cx[i]? = some c → VR E v c)
    (hy : ∀ (i : Nat) (v : AV) (c : Value), ys[i]? = some v → cy[i]? = some c → VR E v c) : ∀ (i : Nat) (v : AV) (c : Value), (xs ++ ys)[i]? = some v → (cx ++ cy)[i]? = some c → VR E v c := by
  intro i v c h1 h2
  rcases Nat.lt_or_ge i xs.length with h | h
  · rw [List.getElem?_append_left h] at h1
    rw [List.getElem?_append_left (by omega)] at h2
    exact hx i v c h1 h2
  · rw [List.getElem?_append_right h] at h1
    rw [List.getElem?_append_right (by omega)] at h2
    exact hy _ v c h1 (by rw [hl]; exact h2)

theorem callee_ok {fv : AV} {cf : Value} {args : List AV} {cargs : List Value} {f : FuncId} {all : List AV} (hf : VR E fv cf) (h : calleeAV C.P fv args = some (f, all)) (hl : args.length = cargs.length)
    (hv : ∀ (i : Nat) (v : AV) (c : Value), args[i]? = some v → cargs[i]? = some c → VR E v c) :
    ∃ first captured : List Value, cf = .func (.func f) first.toArray captured.toArray ∧ all.length = (first ++ (cargs ++ captured)).length ∧
      ∀ (i : Nat) (v : AV) (c : Value), all[i]? = some v → (first ++ (cargs ++ captured))[i]? = some c → VR E v c := by
  unfold calleeAV at h
  split at h
  · rename_i g first captured
    obtain ⟨rfl, rfl⟩ := by simpa using h
    have h1 := (show PR E (.func _ first captured) cf from hf).leaf rfl
    cases h1 with
    | func ha hx hy hnil =>
    rename_i cx cy
    obtain ⟨l1, v1⟩ := leaf_list hx (fun x hx => ha x (List.mem_append.2 (.inl hx)))
    obtain ⟨l2, v2⟩ := leaf_list hy (fun x hx => ha x (List.mem_append.2 (.inr hx)))
    exact ⟨cx, cy, rfl, by simp [l1, l2, hl], append_vals l1 v1 (append_vals hl hv v2)⟩
  · simp at h
  · simp at h

theorem method_ok {P : Program} {E : Env} {w : World} {r rv : AV} {cr : Value} {m : String} {f : FuncId} (hr : VR E r cr) (h : methodAV P r m = some (f, rv)) (args : List Value) :
    ∃ crv, (callMethod cr m args.toArray).run P w = (callFunc f (crv :: args).toArray).run P w ∧ VR E rv crv := by
  unfold methodAV at h
  split at h
  · rename_i t v
    simp only [Option.bind_eq_some_iff] at h
    obtain ⟨i, hi, mt, hm, h⟩ := h
    split at h
    · rename_i hp
      simp only [Option.bind_eq_some_iff, Prod.exists] at h
      obtain ⟨g, pr, hfn, h⟩ := h
      obtain ⟨cv, rfl, hcv⟩ := PR.iface_inv (show PR E (.iface t v) cr from hr)
      have hpath : mt.path = #[] := Array.isEmpty_iff.1 hp
      have hd : ∃ k, P.types.size + Made.depth = k + 1 := ⟨P.types.size + 99, rfl⟩
      obtain ⟨k, hk⟩ := hd
      have key : (method (P.types.size + Made.depth) t cv m).run P w = .ok (f, cv) w ∧ rv = v := by
        rw [hk]
        split at h
        · rename_i e hu
          obtain ⟨rfl, rfl⟩ := by simpa using h
          exact ⟨by simp [method, typeInfo, hi, hm, hpath, follow, hfn, receiverAt, run_underlying hu, Place.get], rfl⟩
        · simp at h
        · rename_i d hnp hu
          obtain ⟨rfl, rfl⟩ := by simpa using h
          refine ⟨?_, rfl⟩
          cases d <;> first | (simp [method, typeInfo, hi, hm, hpath, follow, hfn, receiverAt, run_underlying hu, Place.get]; done) | (exfalso; exact hnp _ rfl)
        · simp at h
      obtain ⟨key, rfl⟩ := key
      refine ⟨cv, ?_, VR.of_PR hcv⟩
      simp [callMethod, key]
    · rename_i hnp
      split at h
      · rename_i st hst
        split at h
        · simp at h
        · rename_i hder
          simp only [Option.bind_eq_some_iff, Prod.exists] at h
          obtain ⟨g, pr, hfn, h⟩ := h
          split at h
          · rename_i fs hu
            simp only [Option.bind_eq_some_iff] at h
            obtain ⟨fl, hfl, q, hq, h⟩ := h
            split at h
            · rename_i e hue
              obtain ⟨rfl, rfl⟩ := by simpa using h
              obtain ⟨cv, rfl, hcv⟩ := PR.iface_inv (show PR E (.iface t v) cr from hr)
              obtain ⟨k, hk⟩ : ∃ k, P.types.size + Made.depth = k + 1 := ⟨P.types.size + 99, rfl⟩
              have hd0 : st.deref = false := by simpa using hder
              cases v <;> simp only [fieldAV, reduceCtorEq] at hq
              rename_i n ps
              simp only [Option.bind_eq_some_iff] at hq
              obtain ⟨fl', hfl', p, hp, hq⟩ := hq
              split at hq
              · rename_i hc
                obtain rfl := Option.some.inj hq
                have hff : fl' = fl := by
                  unfold fieldOf at hfl'
                  rw [hu] at hfl'
                  exact Option.some.inj (hfl'.symm.trans hfl)
                subst hff
                obtain ⟨cs, rfl, hf, _⟩ := PR.agg_inv (show PR E (.agg n ps) cv from hcv)
                obtain ⟨pre, mid, post, rfl, hpre, hm', _⟩ := hf.nth hp
                have hpart := run_part' (P := P) (w := w) (post := post) hm' (hpre.trans hc.1) hc.2.1 hc.2.2
                refine ⟨pack p mid, ?_, .of_PR (.of_cells hm')⟩
                rw [List.append_assoc] at hpart
                have key : (method (P.types.size + Made.depth) t (.agg (pre ++ mid ++ post).toArray) m).run P w = .ok (g, pack p mid) w := by
                  rw [hk, List.append_assoc]
                  simp [method, typeInfo, hi, hm, hst, follow, Sem.run_bind, run_underlying hu, hfl, hd0, hpart, hfn, receiverAt, run_underlying hue, Place.get]
                rw [List.append_assoc] at key
                simp [callMethod, key]
              · simp at hq
            · simp at h
          · simp at h
      · simp at h
  · simp at h
end
end Go.X
