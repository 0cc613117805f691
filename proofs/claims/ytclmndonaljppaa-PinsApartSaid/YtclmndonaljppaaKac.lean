/-
  Each operation: what the evaluator tells is what the model does.
-/
import Derived.Test.YtclmndonaljppaaKab
import Derived.Orders

namespace Go.X
open Go.RowKit (Below)

section
variable {C : Ctx} {B : Nat} {E : Env} {s : St} {a : Act} {w : World}

def isScal : Value → Bool
  | .int .. | .float .. | .complex .. | .string _ | .bool _ => true
  | _ => false

theorem not_scal {E : Env} {v : AV} {c : Value} (h : PR E v c) (hs : v.scalar = none) : isScal c = false := by
  obtain ⟨cs, h1, rfl⟩ := h
  cases h1 <;> first | rfl | simp [AV.scalar] at hs

theorem binOp_eq {P : Program} {w : World} {t : TypeId} {cx cy : Value} (hx : isScal cx = false) (hy : isScal cy = false) {r : Bool} (h : (Op.equal t cx cy).run P w = .ok r w) :
    (binOp .eql t cx cy).run P w = .ok (.bool r) w ∧ (binOp .neq t cx cy).run P w = .ok (.bool !r) w := by
  cases cx <;> simp only [isScal, reduceCtorEq] at hx <;> cases cy <;> simp only [isScal, reduceCtorEq] at hy <;> simp [binOp, h]

theorem nili_of {E : Env} {x : AV} (h : PR E x .nilIface) : x = .nili := by
  obtain ⟨cs, h1, h2⟩ := h
  cases h1 <;> simp [pack, AV.isAgg] at h2 ⊢

theorem agg_of {E : Env} {x : AV} {c : Value} (h : PR E x c) (hc : isAggV c = true) : x.isAgg = true := by
  obtain ⟨cs, h1, rfl⟩ := h
  cases h1 <;> first | rfl | simp [pack, AV.isAgg, isAggV] at hc

theorem guard_run {P : Program} {w : World} {op : BinOp} {t : TypeId} {ox oy : Operand} {cx cy : Value} (hn : ¬ (cx = .nilIface ∧ cy = .nilIface)) (ha : isAggV cx = true → P.eqGuardType P.depth t = false) :
    (eqGuard op t ox oy cx cy).run P w = .ok () w := by
  cases cx
  case nilIface =>
    cases cy
    case nilIface => exact absurd ⟨rfl, rfl⟩ hn
    all_goals (unfold eqGuard; cases op <;> rfl)
  case agg cs =>
    have ha' := ha rfl
    cases cy
    case agg ds => unfold eqGuard; cases op <;> first | rfl | simp [ha']
    all_goals (unfold eqGuard; cases op <;> rfl)
  all_goals (unfold eqGuard; cases op <;> rfl)

theorem equalIn_nil {P : Program} {w : World} {t : TypeId} {ms : Array (String × TypeId)} (hu : P.underlying t = some (.interface ms)) (d : Nat) : (Op.equalIn (d + 1) t .nilIface .nilIface).run P w = .ok true w := by
  simp [Op.equalIn, run_underlying hu]

/-- '==' and '!=' where not both are numbers, texts or bools. -/
theorem equalIn_bool {P : Program} {w : World} {t : TypeId} {a b : Bool} (hu : P.underlying t = some .bool) (d : Nat) : (Op.equalIn (d + 1) t (.bool a) (.bool b)).run P w = .ok (a == b) w := by
  simp [Op.equalIn, run_underlying hu, Sem.run_bind]

theorem scalBin_ok {P : Program} {E : Env} {o : BinOp} {t : TypeId} {cx cy : Value} {v : AV} (h : scalBin P o t cx cy = some v) (w : World) : ∃ c, (binOp o t cx cy).run P w = .ok c w ∧ VR E v c := by
  unfold scalBin at h
  split at h
  · rename_i a b
    split at h
    · rename_i hu
      obtain rfl := Option.some.inj h
      have he : (Op.equal t (.bool a) (.bool b)).run P w = .ok (a == b) w := by
        exact equalIn_bool hu 9999
      exact ⟨_, by simp [binOp, he], VR.bool⟩
    · simp at h
  · rename_i a b
    split at h
    · rename_i hu
      obtain rfl := Option.some.inj h
      have he : (Op.equal t (.bool a) (.bool b)).run P w = .ok (a == b) w := by
        exact equalIn_bool hu 9999
      exact ⟨_, by simp [binOp, he], VR.bool⟩
    · simp at h
  · exact liftPure_ok h w

theorem eq_ok {P : Program} {E : Env} {w : World} {t : TypeId} {x y : AV} {cx cy : Value} {r : Bool} {ox oy : Operand} (hx : VR E x cx) (hy : VR E y cy) (sx : x.scalar = none) (sy : y.scalar = none)
    (hg : (x.isAgg && P.eqGuardType P.depth t) = false) (h : eqNil P t ox oy x y = some r) :
    (do eqGuard .eql t ox oy cx cy; binOp .eql t cx cy).run P w = .ok (.bool r) w ∧ (do eqGuard .neq t ox oy cx cy; binOp .neq t cx cy).run P w = .ok (.bool !r) w := by
  unfold eqNil at h
  split at h
  · split at h
    · rename_i hc
      obtain rfl := Option.some.inj h
      obtain rfl := PR.nili_inv (show PR E .nili cx from hx)
      obtain rfl := PR.nili_inv (show PR E .nili cy from hy)
      simp only [Bool.and_eq_true] at hc
      obtain ⟨hc, hu⟩ := hc
      unfold tiface at hu
      split at hu
      · rename_i ms hu'
        have he : (Op.equal t .nilIface .nilIface).run P w = .ok true w := by
          exact equalIn_nil hu' 9999
        have hb := binOp_eq (P := P) (w := w) (t := t) (cx := .nilIface) (cy := .nilIface) rfl rfl he
        have hgd : ∀ op, (eqGuard op t ox oy .nilIface .nilIface).run P w = .ok () w := fun op => by
          unfold eqGuard
          cases ox <;> cases oy <;> simp [isConstO] at hc <;> simp
        simp [hgd, hb.1, hb.2]
      · simp at hu
    · simp at h
  · rename_i hnn
    have hpx : x.plain = true := by cases x <;> first | rfl | (cases d : P.underlying t <;> simp [eqAV, d] at h)
    have hpy : y.plain = true := by cases y <;> first | rfl | (cases x <;> cases d : P.underlying t <;> simp [eqAV, d] at h)
    have h1 := hx.toPR hpx
    have h2 := hy.toPR hpy
    have he := eqAV_ok (P := P) (w := w) 30 9970 t x y cx cy r h1 h2 h
    have hb := binOp_eq (P := P) (w := w) (t := t) (not_scal h1 sx) (not_scal h2 sy) (show (Op.equal t cx cy).run P w = .ok r w from he)
    have hgd : ∀ op, (eqGuard op t ox oy cx cy).run P w = .ok () w := fun op => by
      refine guard_run (fun hh => ?_) (fun hh => ?_)
      · obtain ⟨rfl, rfl⟩ := hh
        exact hnn (nili_of h1) (nili_of h2)
      · simpa [agg_of h1 hh] using hg
    simp [hgd, hb.1, hb.2]

theorem len_ok {E : Env} {x : AV} {cx : Value} {n : Nat} (hx : VR E x cx) (h : x.len = some n) (hns : ∀ s, x ≠ .str s) : ∃ base cap, cx = .slice base n cap := by
  cases x <;> simp only [AV.len, Option.some.injEq, reduceCtorEq] at h
  · exact absurd rfl (hns _)
  · subst h
    have k := (show PR E .nils cx from hx).leaf rfl
    cases k
    exact ⟨_, _, rfl⟩
  · subst h
    obtain ⟨a, cap, rfl, _⟩ := PR.sl_inv (show PR E (.sl _ _ _ _ _) cx from hx)
    exact ⟨_, _, rfl⟩
  · subst h
    obtain ⟨b, o, sp, c1, cap, rfl, _⟩ := PR.isl_inv (show PR E (.isl _ _) cx from hx)
    exact ⟨_, _, rfl⟩

theorem scalars_ok {E : Env} : ∀ {xs : List AV} {cs ds : List Value}, (xs.length = cs.length) → (∀ (i : Nat) (v : AV) (c : Value), xs[i]? = some v → cs[i]? = some c → VR E v c) → xs.mapM AV.scalar = some ds → cs = ds
  | [], cs, ds, hl, _, h => by
    simp at h
    subst h
    exact List.eq_nil_of_length_eq_zero hl.symm
  | x :: xs, cs, ds, hl, hv, h => by
    cases cs with
    | nil => simp at hl
    | cons c cs =>
      simp only [List.mapM_cons, Option.bind_eq_bind, Option.pure_def, Option.bind_eq_some_iff] at h
      obtain ⟨d, hd, ds', hds, h⟩ := h
      obtain rfl := Option.some.inj h
      have e1 := scalar_ok (hv 0 x c rfl rfl) hd
      have e2 := scalars_ok (cs := cs) (ds := ds') (by simpa using hl) (fun i v c h1 h2 => hv (i + 1) v c (by simpa using h1) (by simpa using h2)) hds
      rw [e1, e2]

theorem builtin_ok (hR : SR C B E s a w) {o : Oper} {c : Call} {b : Builtin} {v : AV} {H' : Heap} {e : Bool} (ho : o.op = .call c) (hb : c.callee = .builtin b) (h : evalBuiltin C b c.argTypes (c.args.toList.map (s.eval C.A)) s = some (v, H', e))
    {next : Act → World → Prop} {Q : Exit → Act → World → Prop} (hn : ∀ E' w' c, Res B C.n0 E s.H w v H' e E' w' c → next (a.put o.dst c) w') : o.wp C.P a w next Q := by
  have hs := hR.sim
  have hargs := args_ok hR c.args.toList
  have hcl : (c.args.map a.eval).toList = c.args.toList.map a.eval := by simp
  have hlen : (c.args.toList.map (s.eval C.A)).length = (c.args.toList.map a.eval).length := by simp
  generalize c.args.toList.map (s.eval C.A) = avs at h hargs hlen
  generalize hcvs : c.args.toList.map a.eval = cvs at hargs hlen hcl
  have hcm : c.args.map a.eval = cvs.toArray := by rw [← hcl]
  have run : ∀ {e' : Sem Value}, (∀ consts, builtin b c.argTypes o.type consts cvs.toArray = (do pure (Next.value (← e')))) → (execOp a.eval o).run C.P w = ((do pure (Next.value (← e'))) : Sem Next).run C.P w := fun {e'} hh => by
    unfold execOp
    simp only [ho, resolve, hb]
    simp [invoke, hcm, hh]
  have pure_ : ∀ {r : Option AV} {e' : Sem Value}, (∀ consts, builtin b c.argTypes o.type consts cvs.toArray = (do pure (Next.value (← e')))) → (r.map fun v => (v, s.H, false)) = some (v, H', e) → (∀ u, r = some u → ∃ c, e'.run C.P w = .ok c w ∧ VR E u c) →
      o.wp C.P a w next Q := fun {r e'} he hq hc => by
    obtain ⟨h1, rfl, rfl⟩ := q_inv hq
    obtain ⟨c, h2, h3⟩ := hc _ h1
    exact value_wp (by rw [run he]; exact value_run h2) (hn E w c (Res.same hs h3))
  have two : ∀ {x y : AV}, avs = [x, y] → ∃ cx cy, cvs = [cx, cy] ∧ VR E x cx ∧ VR E y cy := fun {x y} hx => by
    subst hx
    match cvs, hlen with
    | [cx, cy], _ => exact ⟨cx, cy, rfl, hargs 0 x cx rfl rfl, hargs 1 y cy rfl rfl⟩
  have one : ∀ {x : AV}, avs = [x] → ∃ cx, cvs = [cx] ∧ VR E x cx := fun {x} hx => by
    subst hx
    match cvs, hlen with
    | [cx], _ => exact ⟨cx, rfl, hargs 0 x cx rfl rfl⟩
  unfold evalBuiltin at h
  split at h
  · -- len
    rename_i x
    obtain ⟨cx, rfl, hx⟩ := one rfl
    simp only [Option.bind_eq_some_iff] at h
    obtain ⟨t, ht, h⟩ := h
    split at h
    · rename_i n el hu
      exact pure_ (e' := Builtin.len_ c.argTypes o.type #[cx]) (fun _ => rfl) h (fun u hu' => by
        obtain rfl := Option.some.inj hu'
        exact ⟨_, by simp [Builtin.len_, ht, run_underlying hu, goInt], VR.int⟩)
    · rename_i ar hu
      split at h
      · rename_i n el hu2
        exact pure_ (e' := Builtin.len_ c.argTypes o.type #[cx]) (fun _ => rfl) h (fun u hu' => by
          obtain rfl := Option.some.inj hu'
          exact ⟨_, by simp [Builtin.len_, ht, run_underlying hu, run_underlying hu2, goInt], VR.int⟩)
      · simp at h
    · rename_i hu
      split at h
      · rename_i str
        obtain rfl := hx.str_inv
        exact pure_ (e' := Builtin.len_ c.argTypes o.type #[.string str]) (fun _ => rfl) h (fun u hu' => by
          obtain rfl := Option.some.inj hu'
          exact ⟨_, by simp [Builtin.len_, ht, run_underlying hu, goInt], VR.int⟩)
      · simp at h
    · rename_i el hu
      split at h
      · simp at h
      · rename_i hns
        exact pure_ (e' := Builtin.len_ c.argTypes o.type #[cx]) (fun _ => rfl) h (fun u hu' => by
          simp only [Option.map_eq_some_iff] at hu'
          obtain ⟨n, hn', rfl⟩ := hu'
          obtain ⟨base, cap, rfl⟩ := len_ok hx hn' hns
          exact ⟨_, by simp [Builtin.len_, ht, run_underlying hu, goInt], VR.int⟩)
    · simp at h
  · -- min
    rename_i x xs
    match cvs, hlen with
    | cx :: cs, hlen =>
      exact pure_ (e' := Builtin.min_ c.argTypes o.type (cx :: cs).toArray) (fun _ => rfl) h (fun u hu' => by
        simp only [Option.bind_eq_some_iff] at hu'
        obtain ⟨d, hd, ds, hds, hu'⟩ := hu'
        have e1 := scalar_ok (hargs 0 x cx rfl rfl) hd
        have e2 := scalars_ok (by simpa using hlen) (fun i v c h1 h2 => hargs (i + 1) v c (by simpa using h1) (by simpa using h2)) hds
        subst e1 e2
        obtain ⟨r, h1, h2⟩ := liftPure_ok (E := E) (P := C.P) hu' w
        exact ⟨r, by simpa [Builtin.min_] using h1, h2⟩)
  · -- max
    rename_i x xs
    match cvs, hlen with
    | cx :: cs, hlen =>
      exact pure_ (e' := Builtin.max_ c.argTypes o.type (cx :: cs).toArray) (fun _ => rfl) h (fun u hu' => by
        simp only [Option.bind_eq_some_iff] at hu'
        obtain ⟨d, hd, ds, hds, hu'⟩ := hu'
        have e1 := scalar_ok (hargs 0 x cx rfl rfl) hd
        have e2 := scalars_ok (by simpa using hlen) (fun i v c h1 h2 => hargs (i + 1) v c (by simpa using h1) (by simpa using h2)) hds
        subst e1 e2
        obtain ⟨r, h1, h2⟩ := liftPure_ok (E := E) (P := C.P) hu' w
        exact ⟨r, by simpa [Builtin.max_] using h1, h2⟩)
  · -- append
    rename_i x y
    obtain ⟨cx, cy, rfl, hx, hy⟩ := two rfl
    simp only [Option.bind_eq_some_iff] at h
    obtain ⟨t, ht, u, hu, h⟩ := h
    split at h
    · rename_i el d htu hud
      split at h
      · simp at h
      · rename_i hk
        simp only [Option.bind_eq_some_iff, Option.map_eq_some_iff, Prod.exists, Prod.mk.injEq] at h
        obtain ⟨sz, hsz, xs, hxs, ys, H1, hfz, v', H2, happ, rfl, rfl, rfl⟩ := h
        obtain ⟨cells, hsrc⟩ := srcAV_ok (P := C.P) hs hy hxs
        have hfrz : ∃ E1, Frz B C.n0 E s.H w E1 H1 ∧ Src C.P E1 w sz ys cy cells := by
          split at hfz
          · obtain ⟨E1, g1, g2, g3⟩ := freezeL_ok xs E s.H ys H1 cells hs hsrc.fr hfz
            refine ⟨E1, g1, g2, fun u hu => ?_, ?_, ?_⟩
            · have : u.flatLen ∈ ys.map AV.flatLen := List.mem_map_of_mem hu
              rw [g3] at this
              obtain ⟨z, hz, hzu⟩ := List.mem_map.1 this
              rw [← hzu]
              exact hsrc.each z hz
            · have hl : ys.length = xs.length := by rw [← List.length_map (f := AV.flatLen), g3, List.length_map]
              rw [hl]; exact hsrc.len
            · have hl : ys.length = xs.length := by rw [← List.length_map (f := AV.flatLen), g3, List.length_map]
              rw [hl]; exact hsrc.first
          · simp only [Option.some.injEq, Prod.mk.injEq] at hfz
            obtain ⟨rfl, rfl⟩ := hfz
            exact ⟨E, Frz.refl hs, hsrc⟩
        obtain ⟨E1, g1, hsrc1⟩ := hfrz
        have htop1 : E.top ≤ E1.top := by rw [hs.top, g1.sim.top, g1.len]; exact Nat.le_refl _
        have hx1 : VR E1 x cx := hx.later (by rw [hs.top]; exact g1.tr.evol) htop1
        obtain ⟨cr, w', E', hr, hres⟩ := append_ok (n0 := C.n0) (ty := o.type) g1.sim (by rw [g1.len]; exact hR.len) ht hu htu hud (by simpa using hk) hsz hx1 hsrc1 happ
        refine value_wp (by rw [run (e' := Builtin.append_ c.argTypes o.type #[cx, cy]) (fun _ => rfl)]; exact value_run hr) (hn E' w' cr ?_)
        exact ⟨hres.sim, hres.val, g1.tr.trans (g1.len ▸ hres.tr), by rw [← g1.len]; exact hres.len, fun he => g1.sub.trans (hres.sub he)⟩
    · simp at h
  · -- copy
    rename_i x y
    obtain ⟨cx, cy, rfl, hx, hy⟩ := two rfl
    simp only [Option.bind_eq_some_iff, Option.map_eq_some_iff, Prod.exists, Prod.mk.injEq] at h
    obtain ⟨t, ht, v', H2, hcp, rfl, rfl, rfl⟩ := h
    obtain ⟨cr, w', E', hr, hres⟩ := copy_ok (n0 := C.n0) (ty := o.type) hs ht hx hy hcp
    exact value_wp (by rw [run (e' := Builtin.copy_ c.argTypes o.type #[cx, cy]) (fun _ => rfl)]; exact value_run hr) (hn E' w' cr hres)
  · -- clear
    rename_i x
    obtain ⟨cx, rfl, hx⟩ := one rfl
    simp only [Option.bind_eq_some_iff, Option.map_eq_some_iff, Prod.exists, Prod.mk.injEq] at h
    obtain ⟨t, ht, v', H2, hcp, rfl, rfl, rfl⟩ := h
    obtain ⟨cr, w', E', hr, hres⟩ := clear_ok (n0 := C.n0) (ty := o.type) hs ht hx hcp
    exact value_wp (by rw [run (e' := Builtin.clear_ c.argTypes o.type #[cx]) (fun _ => rfl)]; exact value_run hr) (hn E' w' cr hres)
  · simp at h

theorem op_ok (hk : OracleSound C.P B C.U.G C.K) (hx : ExtSound C.P B C.U.X) (hG : GlobOk C.U.G E) (hR : SR C B E s a w) {o : Oper} {v : AV} {H' : Heap} {e : Bool} (h : evalOp C s o.op o.type = some (v, H', e))
    {next : Act → World → Prop} {Q : Exit → Act → World → Prop} (hn : ∀ E' w' c, Res B C.n0 E s.H w v H' e E' w' c → next (a.put o.dst c) w') : o.wp C.P a w next Q := by
  have hs := hR.sim
  have hE := hR.eval
  obtain ⟨dst, op, type, pos, after, guard⟩ := o
  simp only at h hn
  have pure_ : ∀ {r : Option AV} {e' : Sem Value}, (execOp a.eval ⟨dst, op, type, pos, after, guard⟩) = (do pure (Next.value (← e'))) → (r.map fun v => (v, s.H, false)) = some (v, H', e) → (∀ u, r = some u → ∃ c, e'.run C.P w = .ok c w ∧ VR E u c) →
      Oper.wp C.P ⟨dst, op, type, pos, after, guard⟩ a w next Q := fun {r e'} he hq hc => by
    obtain ⟨h1, rfl, rfl⟩ := q_inv hq
    obtain ⟨c, h2, h3⟩ := hc _ h1
    exact value_wp (by rw [he]; exact value_run h2) (hn E w c (Res.same hs h3))
  cases op <;> simp only [evalOp, reduceCtorEq] at h
  case move x =>
    obtain ⟨h1, rfl, rfl⟩ := q_inv h
    obtain rfl := Option.some.inj h1
    exact value_wp rfl (hn E w _ (Res.same hs (hE x)))
  case assign x =>
    obtain ⟨h1, rfl, rfl⟩ := q_inv h
    obtain rfl := Option.some.inj h1
    exact value_wp rfl (hn E w _ (Res.same hs (hE x)))
  case pick c x y =>
    have hc := hE c
    split at h
    · rename_i hb
      rw [hb] at hc
      obtain ⟨h1, rfl, rfl⟩ := q_inv h
      obtain rfl := Option.some.inj h1
      exact value_wp (by simp [execOp, hc.bool_inv, asBool]) (hn E w _ (Res.same hs (hE x)))
    · rename_i hb
      rw [hb] at hc
      obtain ⟨h1, rfl, rfl⟩ := q_inv h
      obtain rfl := Option.some.inj h1
      exact value_wp (by simp [execOp, hc.bool_inv, asBool]) (hn E w _ (Res.same hs (hE y)))
    · simp at h
  case alloc t =>
    simp only [Option.map_eq_some_iff, Prod.mk.injEq] at h
    obtain ⟨z, hz, rfl, rfl, rfl⟩ := h
    obtain ⟨c, w', E', hr, hres⟩ := alloc_ok (n0 := C.n0) hs hR.len hz
    exact value_wp (value_run hr) (hn E' w' c hres)
  case box t x =>
    split at h
    · rename_i hp
      obtain ⟨rfl, rfl, rfl⟩ := by simpa using h
      obtain ⟨c, w', E', hr, hres⟩ := box_ok (P := C.P) (n0 := C.n0) (t := t) hs hR.len (hE x) hp
      exact value_wp (value_run hr) (hn E' w' c hres)
    · simp at h
  case build t ps =>
    refine pure_ rfl h (fun u hu => ?_)
    have hp := parts_ok hR ps.toList
    obtain ⟨c, h1, h2⟩ := build_ok (P := C.P) (w := w) hp hu
    refine ⟨c, ?_, h2⟩
    rw [← h1]
    congr 2
    apply Array.ext'
    simp
  case buildSlice t len ps =>
    split at h
    · rename_i el hu
      simp only [Option.bind_eq_some_iff] at h
      obtain ⟨sz, hsz, h⟩ := h
      split at h
      · rename_i hc
        simp only [Option.map_eq_some_iff, Prod.mk.injEq] at h
        obtain ⟨r, hr, rfl, rfl, rfl⟩ := h
        split at hr
        · rename_i hl
          subst hl
          split at hr
          · rename_i hemp
            obtain rfl := Option.some.inj hr
            obtain ⟨c, w', E', h1, h2⟩ := buildSlice0_ok (P := C.P) (n0 := C.n0) hs hR.len hu hsz
            have hps : ps = #[] := by
              apply Array.ext'
              simpa using hemp
            exact value_wp (value_run (by rw [hps]; simpa using h1)) (hn E' w' c (by simpa [AV.refless, reflessL] using h2))
          · simp at hr
        · rename_i hl
          simp only [Option.bind_eq_some_iff] at hr
          obtain ⟨z, hz, hr⟩ := hr
          split at hr
          · rename_i hzl
            have hp := parts_ok hR ps.toList
            obtain ⟨c, w', E', h1, h2⟩ := buildSlice_ok (P := C.P) (n0 := C.n0) hs hR.len hu hsz hz hzl hc.2 (by omega) hc.1 hp hr
            refine value_wp (value_run ?_) (hn E' w' c h2)
            rw [← h1]
            congr 2
            apply Array.ext'
            simp
          · simp at hr
      · simp at h
    · simp at h
  case load t x =>
    cases x with
    | global g =>
      simp only at h
      refine pure_ rfl h (fun u hu => ?_)
      simp only [Option.bind_eq_some_iff] at hu
      obtain ⟨v0, hg, hu⟩ := hu
      obtain ⟨c, h1, h2, _⟩ := load_ok hs (hG g v0 hg) hu
      exact ⟨c, h1, .of_PR h2⟩
    | _ =>
      simp only at h
      refine pure_ rfl h (fun u hu => ?_)
      obtain ⟨c, h1, h2, _⟩ := load_ok hs (hE _) hu
      exact ⟨c, h1, .of_PR h2⟩
  case store t x y =>
    simp only [Option.map_eq_some_iff, Prod.mk.injEq] at h
    obtain ⟨H1, h1, rfl, rfl, rfl⟩ := h
    obtain ⟨w', hr, hres⟩ := store_ok (n0 := C.n0) hs (hE x) (hE y) h1
    exact skip_wp (by simp [execOp, hr]) (hn E w' undef hres)
  case nilCheck x =>
    have hx := hE x
    split at h
    · rename_i p hv
      rw [hv] at hx
      obtain ⟨h1, rfl, rfl⟩ := q_inv h
      obtain rfl := Option.some.inj h1
      obtain ⟨ad, hc, _⟩ := PR.ptr_inv (show PR E (.ptr p) _ from hx)
      exact value_wp (by simp [execOp, hc]) (hn E w _ (Res.same hs (hc ▸ hx)))
    · rename_i u hv
      rw [hv] at hx
      obtain ⟨h1, rfl, rfl⟩ := q_inv h
      obtain rfl := Option.some.inj h1
      obtain ⟨b, q, c1, hc, _⟩ := PR.iptr_inv (show PR E (.iptr u) _ from hx)
      exact value_wp (by simp [execOp, hc]) (hn E w _ (Res.same hs (hc ▸ hx)))
    · rename_i t u hv
      rw [hv] at hx
      obtain ⟨h1, rfl, rfl⟩ := q_inv h
      obtain rfl := Option.some.inj h1
      obtain ⟨cu, hc, _⟩ := PR.iface_inv (show PR E (.iface t u) _ from hx)
      exact value_wp (by simp [execOp, hc]) (hn E w _ (Res.same hs (hc ▸ hx)))
    · rename_i f fa fb hv
      rw [hv] at hx
      obtain ⟨h1, rfl, rfl⟩ := q_inv h
      obtain rfl := Option.some.inj h1
      have h2 := (show PR E (.func (.func f) fa fb) _ from hx).leaf rfl
      generalize hcx : a.eval x = cx at h2 hx
      cases h2 with
      | func k1 k2 k3 k4 => exact value_wp (by simp [execOp, hcx]) (hn E w _ (Res.same hs hx))
    · simp at h
  case binOp op t x y yt =>
    have hx := hE x
    have hy := hE y
    split at h
    · rename_i cx cy hcx hcy
      refine pure_ rfl h (fun u hu => ?_)
      obtain ⟨c, h1, h2⟩ := scalBin_ok (E := E) (P := C.P) hu w
      rw [scalar_ok hx hcx, scalar_ok hy hcy]
      refine ⟨c, ?_, h2⟩
      simp only [Sem.run_bind, scal_pure hcx hcy, Result.andThen_ok]
      exact h1
    · rename_i hcx hcy
      split at h
      · simp at h
      · rename_i hg
        split at h
        · refine pure_ rfl h (fun u hu => ?_)
          simp only [Option.map_eq_some_iff] at hu
          obtain ⟨r, hr, rfl⟩ := hu
          exact ⟨_, (eq_ok hx hy hcx hcy (by simpa using hg) hr).1, VR.bool⟩
        · refine pure_ rfl h (fun u hu => ?_)
          simp only [Option.map_eq_some_iff] at hu
          obtain ⟨r, hr, rfl⟩ := hu
          exact ⟨_, (eq_ok hx hy hcx hcy (by simpa using hg) hr).2, VR.bool⟩
        · simp at h
    · simp at h
  case unOp op t x =>
    refine pure_ rfl h (fun u hu => ?_)
    simp only [Option.bind_eq_some_iff] at hu
    obtain ⟨cx, hcx, hu⟩ := hu
    obtain ⟨c, h1, h2⟩ := liftPure_ok (E := E) (P := C.P) hu w
    exact ⟨c, by rw [scalar_ok (hE x) hcx]; exact h1, h2⟩
  case convert src d x =>
    simp only [Option.map_eq_some_iff, Prod.mk.injEq, Prod.exists] at h
    obtain ⟨v1, H1, h1, rfl, rfl, rfl⟩ := h
    obtain ⟨c, w', E', hr, hres⟩ := convert_ok (n0 := C.n0) hs hR.len (hE x) h1
    exact value_wp (value_run hr) (hn E' w' c hres)
  case sliceToArrayPointer t x =>
    have hx := hE x
    split at h
    · rename_i n el p sz m off len hu hv
      rw [hv] at hx
      split at h
      · rename_i hc
        obtain ⟨h1, h0, hsz⟩ := hc
        obtain ⟨ad, cap, hcx, hid, hcap, h2⟩ := PR.sl_inv (show PR E (.sl p sz m off len) _ from hx)
        have hlt : ¬ len < n := by omega
        split at h
        · rename_i hc2
          obtain ⟨rfl, rfl⟩ := hc2
          refine pure_ rfl h (fun u hu' => ?_)
          obtain rfl := Option.some.inj hu'
          refine ⟨.pointer (some ad), by simp [Instr.arrayAt, run_underlying hu, hcx, hlt], .of_PR (v := .ptr p) ⟨[_], .ptr hid (fun L hL => ?_) .nil, rfl⟩⟩
          rcases h2 L hL with h3 | ⟨h3, _, _, h4⟩
          · exact .inl h3
          · rcases h4 with h4 | h4
            · omega
            · exact .inr ⟨h3, by simpa using h4⟩
        · refine pure_ rfl h (fun u hu' => ?_)
          obtain rfl := Option.some.inj hu'
          refine ⟨.pointer (some ad), by simp [Instr.arrayAt, run_underlying hu, hcx, hlt], .of_PR (v := .sptr p sz m off n) ⟨[_], .sptr hid (fun L hL => ?_) .nil, rfl⟩⟩
          rcases h2 L hL with h3 | ⟨h3, _, _, h4⟩
          · exact .inl h3
          · rcases h4 with h4 | h4
            · omega
            · exact .inr ⟨h3, h4⟩
      · simp at h
    · rename_i n el sz xs hu hv
      rw [hv] at hx
      split at h
      · rename_i hc
        obtain ⟨⟨hn0, h1⟩, hsz⟩ := hc
        refine pure_ rfl h (fun u hu' => ?_)
        obtain rfl := Option.some.inj hu'
        obtain ⟨b, q, sp, c1, cap, hcx, hsp, hr, hf, he, hcap, hm⟩ := PR.isl_inv (show PR E (.isl sz xs) _ from hx)
        obtain rfl : sp = none := by
          rcases hsp with h | h
          · exact h
          · simp [h] at h1; omega
        have hlt : ¬ xs.length < n := by omega
        have hft := hf.take_each he h1
        refine ⟨.pointer (some ⟨b, q, none⟩), by simp [Instr.arrayAt, run_underlying hu, hcx, hlt], .of_PR (v := .iptr _) ⟨[_], .iptr (c1 := c1.take (n * sz)) ?_ ?_ (fun j c hj => ?_) .nil, rfl⟩⟩
        · simp only [AV.refless]
          exact reflessL_sub hr (fun y hy => List.mem_of_mem_take hy)
        · have := FR.arr (e := sz) (vs := []) (cs := []) hft (fun y hy => he y (List.mem_of_mem_take hy)) .nil
          simpa using this
        · refine hm j c ?_
          rw [List.getElem?_take] at hj
          split at hj
          · exact hj
          · simp at hj
      · simp at h
    · simp at h
  case makeInterface t x =>
    split at h
    · simp at h
    · rename_i d hni hu
      split at h
      · rename_i hp
        refine pure_ rfl h (fun u hu' => ?_)
        obtain rfl := Option.some.inj hu'
        obtain ⟨cs, h1, h2⟩ := (hE x).toPR hp
        refine ⟨.iface t (a.eval x), ?_, .of_PR (v := .iface t _) ⟨[_], .iface h1 .nil, ?_⟩⟩
        · cases d <;> first | (exfalso; exact hni _ rfl) | simp [Instr.makeInterface, run_underlying hu]
        · rw [h2]; rfl
      · simp at h
    · simp at h
  case makeFunc fn first captured =>
    split at h
    · rename_i f
      split at h
      · rename_i hall
        refine pure_ rfl h (fun u hu' => ?_)
        obtain rfl := Option.some.inj hu'
        simp only [List.all_append, Bool.and_eq_true] at hall
        have h1 := leaves_ok hR first.toList hall.1
        have h2 := leaves_ok hR captured.toList hall.2
        refine ⟨.func (.func f) (first.map a.eval) (captured.map a.eval), rfl, .of_PR (v := .func _ _ _) ⟨[_], .func (fun x hx => ?_) h1 h2 .nil, ?_⟩⟩
        · rcases List.mem_append.1 hx with hx | hx
          · have := List.all_eq_true.1 hall.1 x hx
            simp at this
            exact this.2
          · have := List.all_eq_true.1 hall.2 x hx
            simp at this
            exact this.2
        · simp only [pack, AV.isAgg, Bool.false_eq_true, if_false, List.headD_cons]
          congr 1
          · apply Array.ext'; simp
          · apply Array.ext'; simp
      · simp at h
    · simp at h
  case makeSlice t l c =>
    split at h
    · rename_i el hu
      simp only [Option.bind_eq_some_iff] at h
      obtain ⟨sz, hsz, by_, hby, nl, hl, nc, hc, z, hz, h⟩ := h
      split at h
      · rename_i hh
        obtain ⟨rfl, rfl, rfl⟩ := by simpa using h
        obtain ⟨cv, w', E', hr, hres⟩ := makeSlice_ok (n0 := C.n0) hs hR.len hu hsz hby (hE l) hl (hE c) hc hz hh.1 hh.2.1 hh.2.2.1 hh.2.2.2.1 hh.2.2.2.2
        exact value_wp (value_run hr) (hn E' w' cv hres)
      · simp at h
    · simp at h
  case slice t x lo hi mx =>
    have hlo : ∀ v, lo.map (s.eval C.A) = some v → ∃ c, lo.map a.eval = some c ∧ VR E v c := fun v hv => by
      simp only [Option.map_eq_some_iff] at hv
      obtain ⟨y, rfl, rfl⟩ := hv
      exact ⟨_, rfl, hE y⟩
    have hlo' : lo.map (s.eval C.A) = none → lo.map a.eval = none := fun hv => by cases lo <;> simp_all
    cases mx with
    | none =>
      simp only at h
      refine pure_ rfl h (fun u hu => ?_)
      exact slice_ok hs (hE x) hlo hlo' (fun v hv => by
        simp only [Option.map_eq_some_iff] at hv
        obtain ⟨y, rfl, rfl⟩ := hv
        exact ⟨_, rfl, hE y⟩) (fun hv => by cases hi <;> simp_all) hu
    | some m =>
      cases hi with
      | none => simp at h
      | some hi =>
        simp only at h
        exact pure_ rfl h (fun u hu => slice3_ok (hE x) hlo hlo' (hE hi) (hE m) hu)
  case fieldAddr t x f => exact pure_ rfl h (fun u hu => fieldAddr_ok (hE x) hu)
  case field t x f => exact pure_ rfl h (fun u hu => field_ok (hE x) hu)
  case indexAddr t x i => exact pure_ rfl h (fun u hu => indexAddr_ok (hE x) (hE i) hu)
  case index t x i => exact pure_ rfl h (fun u hu => index_ok (hE x) (hE i) hu)
  case makeMap t r =>
    cases r with
    | some r => simp at h
    | none =>
      simp only [Option.some.injEq, Prod.mk.injEq] at h
      obtain ⟨rfl, rfl, rfl⟩ := h
      exact value_wp (value_run (e := Instr.makeMap t none) rfl) (hn _ _ _ (makeMap_ok hs hR.len))
  case lookup t x i ok => exact pure_ rfl h (fun u hu => lookup_ok hs (hE x) (hE i) hu)
  case mapUpdate t m k x =>
    simp only [Option.map_eq_some_iff, Prod.mk.injEq] at h
    obtain ⟨H1, h1, rfl, rfl, rfl⟩ := h
    obtain ⟨w', hr, hres⟩ := mapUpdate_ok (n0 := C.n0) hs (hE m) (hE k) (hE x) h1
    exact skip_wp (by simp [execOp, hr]) (hn E w' undef hres)
  case typeAssert x xt asl ok => exact pure_ rfl h (fun u hu => typeAssert_ok (hE x) hu)
  case extract t i =>
    have ht := hE t
    split at h
    · rename_i vs hv
      rw [hv] at ht
      refine pure_ rfl h (fun u hu => ?_)
      obtain ⟨cvs, hc, hl, hall⟩ := ht
      have hi : i < vs.length := by
        rcases Nat.lt_or_ge i vs.length with h | h
        · exact h
        · simp [List.getElem?_eq_none h] at hu
      have hci : cvs[i]? = some cvs[i] := List.getElem?_eq_getElem (by omega)
      refine ⟨cvs[i], by simp [Instr.extract, hc, hci], ?_⟩
      rcases hall i u _ hu hci with rfl | h
      · trivial
      · exact .of_PR h
    · simp at h
  case call c =>
    cases hc : c.callee <;> rw [hc] at h <;> simp only at h
    · rename_i f
      simp only [Option.bind_eq_some_iff, Prod.exists] at h
      obtain ⟨g, all, h1, h2⟩ := h
      obtain ⟨first, captured, hf, hl, hv⟩ := callee_ok (hE f) h1 (cargs := c.args.toList.map a.eval) (by simp) (args_ok hR c.args.toList)
      refine enter_ok hk hx hG hR h2 hl hv ?_ hn
      simp only [execOp, resolve, hc, Deferred.ofValue, hf]
      simp [invoke]
      congr 2
      apply Array.ext'
      simp
    · rename_i r m
      simp only [Option.bind_eq_some_iff, Prod.exists] at h
      obtain ⟨g, rv, h1, h2⟩ := h
      obtain ⟨crv, k1, k2⟩ := method_ok (w := w) (hE r) h1 (c.args.toList.map a.eval)
      refine enter_ok hk hx hG hR h2 (cargs := crv :: c.args.toList.map a.eval) (by simp) (fun i v d hv hd => ?_) ?_ hn
      · cases i with
        | zero =>
          simp only [List.getElem?_cons_zero, Option.some.injEq] at hv hd
          subst hv hd
          exact k2
        | succ i => exact args_ok hR c.args.toList i v d (by simpa using hv) (by simpa using hd)
      · rw [← k1]
        have h0 : (#[a.eval r] ++ Array.map a.eval c.args)[0]? = some (a.eval r) := by simp [Array.getElem?_append]
        simp only [execOp, resolve, hc]
        simp [invoke, h0]
        congr 2
        apply Array.ext'
        simp
        rw [List.take_of_length_le (by simp)]
    · rename_i b
      exact builtin_ok hR rfl hc h hn

end
end Go.X
/-
  Blocks numbered anew: values, blocks, pieces of memory.
-/
namespace Go.X
open Go.RowKit (Below)

def Heap.raw (H : Heap) (i : Nat) : Option Blk := (H[i]?).bind id

theorem raw_blk {H : Heap} {i : Nat} {bk : Blk} : H.blk i = some bk ↔ H.raw i = some bk ∧ bk.root.isTup = false := by
  unfold Heap.blk Heap.raw
  constructor
  · intro h
    have h1 := blkOf_some h
    refine ⟨h1, ?_⟩
    rw [h1] at h
    simp only [blkOf] at h
    split at h
    · cases h
    · rename_i hn; simpa using hn
  · rintro ⟨h1, h2⟩
    rw [h1]
    simp [blkOf, h2]

theorem mem_refsL : ∀ {vs : List AV} {v : AV} {r : Nat}, v ∈ vs → r ∈ v.refs → r ∈ refsL vs
  | x :: vs, v, r, hv, hr => by
    simp only [refsL, List.mem_append]
    rcases List.mem_cons.1 hv with rfl | hv
    · exact .inl hr
    · exact .inr (mem_refsL hv hr)

mutual
/-- Blocks numbered anew. -/
def AV.ren (g : Nat → Nat) : AV → AV
  | .ptr p => .ptr { p with id := g p.id }
  | .sl p a b c d => .sl { p with id := g p.id } a b c d
  | .sptr p a b c d => .sptr { p with id := g p.id } a b c d
  | .map i => .map (g i)
  | .func fn xs ys => .func fn (renL g xs) (renL g ys)
  | .iface t v => .iface t (v.ren g)
  | .agg n ps => .agg n (renL g ps)
  | .arr e xs => .arr e (renL g xs)
  | .tuple vs => .tuple (renL g vs)
  | v => v
def renL (g : Nat → Nat) : List AV → List AV
  | [] => []
  | v :: vs => v.ren g :: renL g vs
end

theorem renL_map (g : Nat → Nat) : ∀ (vs : List AV), renL g vs = vs.map (AV.ren g)
  | [] => rfl
  | v :: vs => by rw [renL, renL_map g vs]; rfl
theorem renL_length (g : Nat → Nat) (vs : List AV) : (renL g vs).length = vs.length := by rw [renL_map, List.length_map]
theorem ren_flatLen (g : Nat → Nat) (v : AV) : (v.ren g).flatLen = v.flatLen := by
  cases v <;> simp [AV.ren, AV.flatLen, renL_length]
theorem ren_isAgg (g : Nat → Nat) (v : AV) : (v.ren g).isAgg = v.isAgg := by cases v <;> rfl
theorem ren_isTup (g : Nat → Nat) (v : AV) : (v.ren g).isTup = v.isTup := by cases v <;> rfl
theorem ren_pack (g : Nat → Nat) (v : AV) (cs : List Value) : pack (v.ren g) cs = pack v cs := by unfold pack; rw [ren_isAgg]

mutual
theorem ren_norefs (g : Nat → Nat) : ∀ (v : AV), v.refs = [] → v.ren g = v
  | .bad, _ | .undf, _ | .yld, _ | .int _ _, _ | .bool _, _ | .str _, _ | .nilp, _ | .iptr _, _ | .nils, _ | .isl _ _, _ | .nilm, _ | .nilf, _ | .hnd _ _, _ | .nili, _ => by simp [AV.ren]
  | .ptr _, h | .sl _ _ _ _ _, h | .sptr _ _ _ _ _, h | .map _, h => by simp [AV.refs] at h
  | .func fn xs ys, h => by
    simp only [AV.refs, List.append_eq_nil_iff] at h
    simp [AV.ren, renL_norefs g xs h.1, renL_norefs g ys h.2]
  | .iface t v, h => by simp only [AV.refs] at h; simp [AV.ren, ren_norefs g v h]
  | .agg n ps, h => by simp only [AV.refs] at h; simp [AV.ren, renL_norefs g ps h]
  | .arr e xs, h => by simp only [AV.refs] at h; simp [AV.ren, renL_norefs g xs h]
  | .tuple vs, h => by simp only [AV.refs] at h; simp [AV.ren, renL_norefs g vs h]
theorem renL_norefs (g : Nat → Nat) : ∀ (vs : List AV), refsL vs = [] → renL g vs = vs
  | [], _ => rfl
  | v :: vs, h => by
    simp only [refsL, List.append_eq_nil_iff] at h
    rw [renL, ren_norefs g v h.1, renL_norefs g vs h.2]
end

mutual
theorem ren_refs (g : Nat → Nat) : ∀ (v : AV), (v.ren g).refs = v.refs.map g
  | .bad | .undf | .yld | .int _ _ | .bool _ | .str _ | .nilp | .iptr _ | .nils | .isl _ _ | .nilm | .nilf | .hnd _ _ | .nili => by simp [AV.ren, AV.refs]
  | .ptr _ | .sl _ _ _ _ _ | .sptr _ _ _ _ _ | .map _ => by simp [AV.ren, AV.refs]
  | .func fn xs ys => by simp [AV.ren, AV.refs, renL_refs g xs, renL_refs g ys]
  | .iface t v => by simp [AV.ren, AV.refs, ren_refs g v]
  | .agg n ps => by simp [AV.ren, AV.refs, renL_refs g ps]
  | .arr e xs => by simp [AV.ren, AV.refs, renL_refs g xs]
  | .tuple vs => by simp [AV.ren, AV.refs, renL_refs g vs]
theorem renL_refs (g : Nat → Nat) : ∀ (vs : List AV), refsL (renL g vs) = (refsL vs).map g
  | [] => rfl
  | v :: vs => by simp [renL, refsL, ren_refs g v, renL_refs g vs]
end

/-- A number's new place. -/
structure GoodR (g : Nat → Nat) (E E' : Env) (r : Nat) : Prop where
  lt : g r < E'.top
  loc : ∀ L', E'.loc (g r) = some L' → ∃ L, E.loc r = some L ∧ (L' = L ∨ L.gen < L'.gen)
  mloc : ∀ b, E'.mloc (g r) = some b → E.mloc r = some b

theorem FR.ren {E E' : Env} {g : Nat → Nat} (hm : ∀ b o c, E.m b o = some c → E'.m b o = some c) {vs : List AV} {cs : List Value} (h : FR E vs cs) (hr : ∀ r ∈ refsL vs, GoodR g E E' r) : FR E' (renL g vs) cs := by
  induction h with
  | nil => exact .nil
  | int h ih => exact .int (ih (by simpa [refsL, AV.refs] using hr))
  | bool h ih => exact .bool (ih (by simpa [refsL, AV.refs] using hr))
  | str h ih => exact .str (ih (by simpa [refsL, AV.refs] using hr))
  | nilp h ih => exact .nilp (ih (by simpa [refsL, AV.refs] using hr))
  | nils h ih => exact .nils (ih (by simpa [refsL, AV.refs] using hr))
  | nilm h ih => exact .nilm (ih (by simpa [refsL, AV.refs] using hr))
  | @map i b vs cs h1 h2 h ih =>
    have hp := hr i (by simp [refsL, AV.refs])
    exact .map hp.lt (fun b' hb => h2 b' (hp.mloc b' hb)) (ih (fun r h => hr r (by simp [refsL, AV.refs, h])))
  | nilf h ih => exact .nilf (ih (by simpa [refsL, AV.refs] using hr))
  | hnd h ih => exact .hnd (ih (by simpa [refsL, AV.refs] using hr))
  | nili h ih => exact .nili (ih (by simpa [refsL, AV.refs] using hr))
  | @ptr p a vs cs h1 h2 h ih =>
    have hp := hr p.id (by simp [refsL, AV.refs])
    refine .ptr hp.lt (fun L hL => ?_) (ih (fun r h => hr r (by simp [refsL, AV.refs, h])))
    obtain ⟨L0, h0, h3⟩ := hp.loc L hL
    rcases h2 L0 h0 with h4 | h4 <;> rcases h3 with rfl | h3
    · exact .inl h4
    · exact .inl (by show p.gen < L.gen; omega)
    · exact .inr h4
    · exact .inl (by show p.gen < L.gen; omega)
  | @sl p esz n off len cap a vs cs h1 hlc h2 hs h ih =>
    have hp := hr p.id (by simp [refsL, AV.refs])
    refine .sl hp.lt hlc (fun L hL => ?_) hs (ih (fun r h => hr r (by simp [refsL, AV.refs, h])))
    obtain ⟨L0, h0, h3⟩ := hp.loc L hL
    rcases h2 L0 h0 with h4 | h4 <;> rcases h3 with rfl | h3
    · exact .inl h4
    · exact .inl (by show p.gen < L.gen; omega)
    · exact .inr h4
    · exact .inl (by show p.gen < L.gen; omega)
  | @sptr p esz n off len a vs cs h1 h2 h ih =>
    have hp := hr p.id (by simp [refsL, AV.refs])
    refine .sptr hp.lt (fun L hL => ?_) (ih (fun r h => hr r (by simp [refsL, AV.refs, h])))
    obtain ⟨L0, h0, h3⟩ := hp.loc L hL
    rcases h2 L0 h0 with h4 | h4 <;> rcases h3 with rfl | h3
    · exact .inl h4
    · exact .inl (by show p.gen < L.gen; omega)
    · exact .inr h4
    · exact .inl (by show p.gen < L.gen; omega)
  | @isl e xs c1 b o cap sp vs cs h1 h2 h3 h4 h5 h6 h ih1 ih =>
    refine .isl h1 ?_ h3 h4 (fun j c hc => hm _ _ _ (h5 j c hc)) h6 (ih (by simpa [refsL, AV.refs] using hr))
    have h0 := FR.evol0.refsL_of_refless h1
    have := ih1 (by rw [h0]; simp)
    rwa [renL_norefs g xs h0] at this
  | @iptr v c1 b o vs cs h1 h2 h3 h ih1 ih =>
    refine .iptr h1 ?_ (fun j c hc => hm _ _ _ (h3 j c hc)) (ih (by simpa [refsL, AV.refs] using hr))
    have h0 := FR.evol0.refs_of_refless h1
    have := ih1 (by simp [refsL, h0])
    rwa [renL, renL, ren_norefs g v h0] at this
  | func h1 h2 h3 h ih1 ih2 ih =>
    refine .func (fun x hx => ?_) (ih1 (fun r h => hr r (by simp [refsL, AV.refs, h]))) (ih2 (fun r h => hr r (by simp [refsL, AV.refs, h]))) (ih (fun r h => hr r (by simp [refsL, h])))
    rw [renL_map, renL_map, ← List.map_append, List.mem_map] at hx
    obtain ⟨y, hy, rfl⟩ := hx
    rw [ren_isAgg]
    exact h1 y hy
  | @iface t v c1 vs cs h1 h ih1 ih =>
    have := ih1 (fun r h => hr r (by simp [refsL] at h; simp [refsL, AV.refs, h]))
    rw [renL, AV.ren, ← ren_pack g v c1]
    exact .iface this (ih (fun r h => hr r (by simp [refsL, h])))
  | agg h1 hn h ih1 ih => exact .agg (ih1 (fun r h => hr r (by simp [refsL, AV.refs, h]))) hn (ih (fun r h => hr r (by simp [refsL, h])))
  | @arr e xs c1 vs cs h1 he h ih1 ih =>
    refine .arr (ih1 (fun r h => hr r (by simp [refsL, AV.refs, h]))) (fun x hx => ?_) (ih (fun r h => hr r (by simp [refsL, h])))
    rw [renL_map, List.mem_map] at hx
    obtain ⟨y, hy, rfl⟩ := hx
    rw [ren_flatLen]
    exact he y hy

theorem VR.ren {E E' : Env} {g : Nat → Nat} (hm : ∀ b o c, E.m b o = some c → E'.m b o = some c) (hy : E'.yl = E.yl) {v : AV} {c : Value} (h : VR E v c) (hr : ∀ r ∈ v.refs, GoodR g E E' r) : VR E' (v.ren g) c := by
  have key : ∀ {v : AV} {c : Value}, PR E v c → (∀ r ∈ v.refs, GoodR g E E' r) → PR E' (v.ren g) c := fun {v c} h hr => by
    obtain ⟨cs, h1, h2⟩ := h
    exact ⟨cs, h1.ren hm (by simpa [refsL] using hr), by rw [ren_pack]; exact h2⟩
  cases v with
  | bad => trivial
  | undf => exact h
  | yld => exact (show c = _ from h).trans (by rw [hy])
  | tuple vs =>
    obtain ⟨cvs, h1, h2, h3⟩ := h
    refine ⟨cvs, h1, by rw [renL_length]; exact h2, fun i v c hv hc => ?_⟩
    rw [renL_map, List.getElem?_map, Option.map_eq_some_iff] at hv
    obtain ⟨u, hu, rfl⟩ := hv
    rcases h3 i u c hu hc with rfl | hp
    · exact .inl rfl
    · exact .inr (key hp (fun r hr' => hr r (by simp only [AV.refs]; exact mem_refsL (List.mem_of_getElem? hu) hr')))
  | _ => exact VR.of_PR (key (show PR E _ c from h) hr)

/-! ### The piece -/
def idx : List Nat → Nat → Nat
  | [], _ => 0
  | i :: r, x => if i == x then 0 else idx r x + 1

theorem idx_get : ∀ {l : List Nat} {x : Nat}, x ∈ l → l[idx l x]? = some x
  | i :: r, x, h => by
    unfold idx
    by_cases hx : i = x
    · subst hx; simp
    · have : x ∈ r := by
        rcases List.mem_cons.1 h with h | h
        · exact absurd h.symm hx
        · exact h
      simp [hx, idx_get this]
theorem idx_lt {l : List Nat} {x : Nat} (h : x ∈ l) : idx l x < l.length := (List.getElem?_eq_some_iff.1 (idx_get h)).1
theorem idx_ne {l : List Nat} {k x : Nat} (h : k ≠ x) : idx (k :: l) x = idx l x + 1 := by
  show (if (k == x) = true then 0 else idx l x + 1) = _
  rw [if_neg (by simpa using h)]
theorem idx_eq {l : List Nat} {x : Nat} : idx (x :: l) x = 0 := by
  show (if (x == x) = true then 0 else idx l x + 1) = _
  rw [if_pos (by simp)]
theorem idx_of : ∀ {l : List Nat} (_ : l.Nodup) {j x : Nat} (_ : l[j]? = some x), idx l x = j
  | [], _, j, x, h => by simp at h
  | i :: r, hn, 0, x, h => by
    obtain rfl : i = x := by simpa using h
    exact idx_eq
  | i :: r, hn, j + 1, x, h => by
    obtain ⟨h1, h2⟩ := List.nodup_cons.1 hn
    have h3 : r[j]? = some x := by simpa using h
    rw [idx_ne (k := i) (x := x) (fun he => h1 (by rw [he]; exact List.mem_of_getElem? h3)), idx_of h2 h3]

def renBk (g : Nat → Nat) (b : Blk) : Blk := if b.flat then b else ⟨b.root.ren g, b.grow, b.flat⟩
def renB (g : Nat → Nat) : Option Blk → Option Blk
  | some b => some (if b.root.isTup then b else renBk g b)
  | none => none

theorem renBk_isTup (g : Nat → Nat) (b : Blk) : (renBk g b).root.isTup = b.root.isTup := by
  unfold renBk
  split
  · rfl
  · exact ren_isTup g b.root
theorem blkOf_renB (g : Nat → Nat) (x : Option Blk) : blkOf (renB g x) = (blkOf x).map (renBk g) := by
  cases x with
  | none => rfl
  | some b =>
    unfold renB
    cases h : b.root.isTup with
    | true => simp [blkOf, h]
    | false => simp [blkOf, h, renBk_isTup]
theorem mpOf_renB (g : Nat → Nat) (x : Option Blk) : mpOf (renB g x) = mpOf x := by
  cases x with
  | none => rfl
  | some b =>
    cases h : b.root.isTup with
    | true => simp [renB, h]
    | false =>
      have h0 : renB g (some b) = some (renBk g b) := by simp [renB, h]
      rw [h0]
      have h' : (renBk g b).root.isTup = false := by rw [renBk_isTup, h]
      generalize renBk g b = b' at h'
      obtain ⟨r, x, y⟩ := b
      obtain ⟨r', x', y'⟩ := b'
      cases r <;> cases r' <;> simp_all [mpOf, AV.isTup]
theorem renBk_flat (g : Nat → Nat) (b : Blk) : (renBk g b).flat = b.flat := by
  unfold renBk
  split <;> rfl
theorem renBk_refs (g : Nat → Nat) (b : Blk) (hf : b.flat = true → b.root.refs = []) : (renBk g b).root.refs = b.root.refs.map g := by
  unfold renBk
  split
  · rename_i h; rw [hf h]; rfl
  · exact ren_refs g b.root

def pieceH (p : List Nat) (H : Heap) : Heap := p.map fun i => renB (idx p) (H.raw i)
def Env.piece (E : Env) (p : List Nat) : Env := ⟨fun j => (p[j]?).bind E.loc, E.m, p.length, fun j => (p[j]?).bind E.mloc, E.yl⟩

theorem Heap.blk_raw (H : Heap) (i : Nat) : H.blk i = blkOf (H.raw i) := rfl
theorem Heap.mp_raw (H : Heap) (i : Nat) : H.mp i = mpOf (H.raw i) := rfl
theorem pieceH_raw (p : List Nat) (H : Heap) (j : Nat) : (pieceH p H).raw j = (p[j]?).bind fun i => renB (idx p) (H.raw i) := by
  unfold pieceH
  rw [Heap.raw, List.getElem?_map]
  cases p[j]? <;> rfl
theorem pieceH_blk (p : List Nat) (H : Heap) (j : Nat) : (pieceH p H).blk j = (p[j]?).bind fun i => (H.blk i).map (renBk (idx p)) := by
  rw [Heap.blk_raw, pieceH_raw]
  cases p[j]? with
  | none => rfl
  | some i => simp only [Option.bind_some]; rw [blkOf_renB]; rfl
theorem pieceH_mp (p : List Nat) (H : Heap) (j : Nat) : (pieceH p H).mp j = (p[j]?).bind H.mp := by
  rw [Heap.mp_raw, pieceH_raw]
  cases p[j]? with
  | none => rfl
  | some i => simp only [Option.bind_some]; rw [mpOf_renB]; rfl

/-- A piece of memory: nothing in it leads out of it. -/
structure Piece (H : Heap) (p : List Nat) : Prop where
  nodup : p.Nodup
  lt : ∀ i ∈ p, i < H.length
  closed : ∀ i ∈ p, ∀ bk, H.blk i = some bk → bk.flat = false → ∀ r ∈ bk.root.refs, r ∈ p

section
variable {B : Nat} {E : Env} {H : Heap} {w : World} {p : List Nat}

theorem good_piece {r : Nat} (hr : r ∈ p) : GoodR (idx p) E (E.piece p) r :=
  ⟨idx_lt hr, fun L' h => ⟨L', by simpa [Env.piece, idx_get hr] using h, .inl rfl⟩, fun b h => by simpa [Env.piece, idx_get hr] using h⟩

theorem BlkAt.ren {E E' : Env} {g : Nat → Nat} {bk : Blk} {L : Loc} {w w' : World} (hm : ∀ b o c, E.m b o = some c → E'.m b o = some c) (h : BlkAt E bk L w) (hr : bk.flat = false → ∀ r ∈ bk.root.refs, GoodR g E E' r) (hf : bk.flat = true → bk.root.refs = [])
    (hw : ∀ j, j < L.ext → w'.cell? ⟨L.b, L.base + j, none⟩ = w.cell? ⟨L.b, L.base + j, none⟩ ∧ w'.frozen? ⟨L.b, L.base + j, none⟩ = w.frozen? ⟨L.b, L.base + j, none⟩) : BlkAt E' (renBk g bk) L w' := by
  obtain ⟨⟨cs, h1, h2, h3⟩, h4, h5⟩ := h
  refine ⟨⟨cs, ?_, h2, fun j c hj => ?_⟩, h4, fun j hj => ?_⟩
  · cases hfl : bk.flat with
    | true =>
      have hx := h1.ren (g := g) hm (by simp [refsL, hf hfl])
      rw [renL, renL, ren_norefs g _ (hf hfl)] at hx
      unfold renBk
      rw [if_pos hfl]
      exact hx
    | false =>
      have hx := h1.ren (g := g) hm (fun r h => hr hfl r (by simpa [refsL] using h))
      unfold renBk
      rw [if_neg (by simp [hfl])]
      exact hx
  · have hlt : j < cs.length := (List.getElem?_eq_some_iff.1 hj).1
    rw [(hw j (by omega)).1]
    exact h3 j c hj
  · rw [(hw j hj).1, (hw j hj).2]
    exact h5 j hj

theorem inE_piece {b o : Nat} (h : InE (E.piece p) b o) : ∃ i ∈ p, ∃ L, E.loc i = some L ∧ L.has b o := by
  obtain ⟨j, L, h1, h2⟩ := h
  simp only [Env.piece, Option.bind_eq_some_iff] at h1
  obtain ⟨i, h3, h4⟩ := h1
  exact ⟨i, List.mem_of_getElem? h3, L, h4, h2⟩
theorem inM_piece {j : Nat} (h : InM (E.piece p) j) : ∃ i ∈ p, E.mloc i = some j := by
  obtain ⟨k, h1⟩ := h
  simp only [Env.piece, Option.bind_eq_some_iff] at h1
  obtain ⟨i, h3, h4⟩ := h1
  exact ⟨i, List.mem_of_getElem? h3, h4⟩

theorem Sim.piece (hs : Sim B E H w) (hp : Piece H p) : Sim B (E.piece p) (pieceH p H) w := by
  refine ⟨by simp [Env.piece, pieceH], fun j bk hj => ?_, fun j L hj => ?_, fun i j Li Lj hi hj hij => ?_, hs.imm, fun b o c hc hin => ?_, fun j bk hj hf => ?_, hs.old, fun j es hj => ?_, fun j b hj => ?_, fun i j b hi hj => ?_⟩
  · rw [pieceH_blk] at hj
    simp only [Option.bind_eq_some_iff, Option.map_eq_some_iff] at hj
    obtain ⟨i, h1, bk0, h2, rfl⟩ := hj
    obtain ⟨L, h3, h4, h5⟩ := hs.live i bk0 h2
    refine ⟨L, by simp [Env.piece, h1, h3], BlkAt.ren (E := E) (E' := E.piece p) (fun _ _ _ h => h) h4 (fun hf r hr => good_piece (hp.closed i (List.mem_of_getElem? h1) bk0 h2 hf r hr)) (hs.flat i bk0 h2) (fun _ _ => ⟨rfl, rfl⟩), h5⟩
  · simp only [Env.piece, Option.bind_eq_some_iff] at hj
    obtain ⟨i, h1, h2⟩ := hj
    obtain ⟨bk, h3⟩ := hs.dead i L h2
    exact ⟨_, by rw [pieceH_blk, h1, Option.bind_some, h3, Option.map_some]⟩
  · simp only [Env.piece, Option.bind_eq_some_iff] at hi hj
    obtain ⟨i', h1, h2⟩ := hi
    obtain ⟨j', h3, h4⟩ := hj
    refine hs.apart i' j' Li Lj h2 h4 (fun he => hij ?_)
    subst he
    rw [← idx_of hp.nodup h1, ← idx_of hp.nodup h3]
  · obtain ⟨i, _, L, h1, h2⟩ := inE_piece hin
    exact hs.immApart b o c hc ⟨i, L, h1, h2⟩
  · rw [pieceH_blk] at hj
    simp only [Option.bind_eq_some_iff, Option.map_eq_some_iff] at hj
    obtain ⟨i, h1, bk0, h2, rfl⟩ := hj
    rw [renBk_refs _ _ (hs.flat i bk0 h2), hs.flat i bk0 h2 (by rw [← renBk_flat (idx p)]; exact hf)]
    rfl
  · rw [pieceH_mp] at hj
    simp only [Option.bind_eq_some_iff] at hj
    obtain ⟨i, h1, h2⟩ := hj
    obtain ⟨b, h3, h4⟩ := hs.mlive i es h2
    exact ⟨b, by simp [Env.piece, h1, h3], h4⟩
  · simp only [Env.piece, Option.bind_eq_some_iff] at hj
    obtain ⟨i, h1, h2⟩ := hj
    obtain ⟨es, h3⟩ := hs.mdead i b h2
    exact ⟨es, by rw [pieceH_mp, h1, Option.bind_some, h3]⟩
  · simp only [Env.piece, Option.bind_eq_some_iff] at hi hj
    obtain ⟨i', h1, h2⟩ := hi
    obtain ⟨j', h3, h4⟩ := hj
    have := hs.mapart i' j' b h2 h4
    subst this
    rw [← idx_of hp.nodup h1, ← idx_of hp.nodup h3]

end
end Go.X
/-
  An abstract evaluator for the translated programs: regions, code, calls. Definitions alone.
-/
namespace Go.X

def wantedAV (A : FAnn) (ops : List Oper) (s : St) (o : Oper) : Option Bool :=
  match o.guard with
  | none => some true
  | some (j, want) => match (ops[j]?).bind (·.dst) with
    | some d => match s.get A d with
      | .bool b => some (b == want)
      | .undf => some false
      | _ => none
    | none => none

/-- Does an operation change memory? -/
def isLoud (P : Program) : Op → Bool
  | .move _ | .assign _ | .pick .. | .build .. | .load .. | .nilCheck _ | .binOp .. | .unOp .. | .makeInterface .. | .makeFunc .. | .slice .. | .fieldAddr .. | .field .. | .indexAddr .. | .index ..
  | .typeAssert .. | .extract .. | .sliceToArrayPointer .. => false
  | .convert _ d _ => match P.underlying d with | some (.slice _) => true | _ => false
  | .call { callee := .builtin b, .. } => match b with | .len | .min | .max => false | _ => true
  | _ => true

/-- Does an operation that changes none look into memory? -/
def isRead : Op → Bool
  | .load .. | .slice .. | .convert .. => true
  | _ => false

/-- One operation of a region. -/
def stepOp (C : Ctx) (ops : List Oper) (s : St) (o : Oper) : Option St :=
  (wantedAV C.A ops s o).bind fun w =>
    if w then (evalOp C s o.op o.type).map fun r =>
      let s' := { s with H := r.2.1, esc := s.esc || r.2.2 }
      match o.dst with
      | some d => s'.set C.A d (if d < C.N then r.1 else .bad)
      | none => s'
    else some (match o.dst with | some d => s.set C.A d .undf | none => s)

def AV.isYld : AV → Bool
  | .yld => true
  | _ => false

/-- One operation, where yield may be called. -/
def stepY (C : Ctx) (ops : List Oper) (s : St) (o : Oper) : Option St :=
  match o.op with
  | .call { callee := .value f, args, .. } => if (s.eval C.A f).isYld && o.guard.isNone then
      (C.Y (args.toList.map (s.eval C.A)) s.H).map fun r =>
        let s' := { s with H := r.1, esc := s.esc || r.2 }
        match o.dst with
        | some d => s'.set C.A d (if d < C.N then .bool true else .bad)
        | none => s'
    else stepOp C ops s o
  | _ => stepOp C ops s o

def runOps (C : Ctx) (ops : List Oper) : List Oper → St → Option St
  | [], s => some s
  | o :: r, s => (stepY C ops s o).bind (runOps C ops r)

/-- Operations that make one block, and do nothing else. -/
def isAllocOp : Op → Bool
  | .alloc _ | .box .. | .buildSlice .. | .makeSlice .. => true
  | _ => false

/-- The newest block leads to none. -/
def lastBare (H : Heap) : Bool := match H.getLast? with
  | some (some b) => b.root.refs.isEmpty
  | _ => false

/-- A region that draws its order: in the order that the notes give; and the memories on the way. -/
def runOrd (C : Ctx) (ops : List Oper) (flo : List Nat) : List Nat → St → Option (St × List (Heap × Bool))
  | [], s => some (s, [])
  | i :: r, s => (ops[i]?).bind fun o => (stepOp C ops s o).bind fun s' => if flo.contains i && !lastBare s'.H then none else
      (runOrd C ops flo r s').map fun x => (x.1, if isLoud C.P o.op then (s'.H, s'.esc) :: x.2 else x.2)

def AV.isBad : AV → Bool
  | .bad => true
  | _ => false

/-- An operation that reads, looked at with another memory of the way. -/
def chkOne (C : Ctx) (ops : List Oper) (s : St) (o : Oper) (H : Heap) : Bool :=
  match wantedAV C.A ops s o with
  | some true => (match evalOp C { s with H } o.op o.type with
    | some r => (match o.dst with | some d => (s.get C.A d).isBad || (decide (d < C.N) && r.1.beq (s.get C.A d)) | none => true)
    | none => false)
  | some false => true
  | none => false

def chkAll (C : Ctx) (ops : List Oper) (s : St) (hs : List (Heap × Bool)) (l : List (Nat × List Nat)) : Bool :=
  l.all fun x => match ops[x.1]? with
    | some o => x.2.all fun p => match hs[p]? with
      | some h => chkOne C ops s o h.1
      | none => true
    | none => true

def runRegion (C : Ctx) (id : Nat) (ops : Array Oper) (draw : Bool) (s : St) : Option St :=
  let s := { s with T := [] }
  if draw then
    match C.A.ord.lookup id with
    | some a => (runOrd C ops.toList a.flo a.order s).bind fun x => if chkAll C ops.toList x.1 ((s.H, s.esc) :: x.2) a.chk then some x.1 else none
    | none => none
  else runOps C ops.toList ops.toList s

/-! What is asked of the notes on a region that draws its order. -/
def precs (o : Oper) : List Nat := o.after.toList.filterMap fun e => if Region.binds .any e then some e.on else none

/-- Who comes before for sure, as a mask. -/
def ancOf (tab : List (Nat × Nat)) : List Nat → Option Nat
  | [] => some 0
  | j :: r => (tab.lookup j).bind fun x => (ancOf tab r).map fun y => 2 ^ j ||| x ||| y

def tmpList (xs : List Operand) : List Nat := xs.filterMap fun | .tmp t => some t | _ => none

def readsOf (ops : List Oper) (o : Oper) : List Nat :=
  tmpList o.op.operands.toList ++ (match o.guard with | some (j, _) => ((ops[j]?).bind (·.dst)).toList | none => [])

def dstsMask (ops : List Oper) : Nat := ops.foldr (fun o m => (match o.dst with | some d => 2 ^ d | none => 0) ||| m) 0

def dstsOk : List Oper → Bool
  | [] => true
  | o :: r => (match o.dst with | some d => !(dstsMask r).testBit d | none => true) && dstsOk r

/-- The notes on who comes before. -/
def ancTab (ops : List Oper) : List Nat → List (Nat × Nat) → Option (List (Nat × Nat))
  | [], tab => some tab
  | i :: r, tab => (ops[i]?).bind fun o => (ancOf tab (precs o)).bind fun x =>
      if (tab.lookup i).isNone then ancTab ops r ((i, x) :: tab) else none

def bef (tab : List (Nat × Nat)) (i j : Nat) : Bool := match tab.lookup j with | some x => x.testBit i | none => false

def loudAt (P : Program) (ops : List Oper) (i : Nat) : Bool := match ops[i]? with | some o => isLoud P o.op | none => false

/-- Whoever writes what an operation reads comes before it for sure, or after it for sure. -/
def availOk (ops : List Oper) (tab : List (Nat × Nat)) : Bool :=
  (List.range ops.length).all fun j => match (ops[j]?).bind (·.dst) with
    | some t => (List.range ops.length).all fun i => match ops[i]? with
      | some o => !(readsOf ops o).contains t || bef tab j i || (bef tab i j && !isRead o.op)
      | none => true
    | none => true

/-- x, then y: for sure; or y only makes a block, and who reads of it comes behind x. -/
def pairOk (ops : List Oper) (tab : List (Nat × Nat)) (flo : List Nat) (x y : Nat) : Bool :=
  bef tab x y || (flo.contains y && match ops[y]? with
    | some o => isAllocOp o.op && o.guard.isNone && (match o.dst with
      | some t => (List.range ops.length).all fun d => match ops[d]? with
        | some o' => !(readsOf ops o').contains t || bef tab x d || bef tab d y
        | none => true
      | none => false)
    | none => false)

def pairsOk (ops : List Oper) (tab : List (Nat × Nat)) (flo : List Nat) : List Nat → Bool
  | [] => true
  | x :: r => r.all (pairOk ops tab flo x) && pairsOk ops tab flo r

def possible (tab : List (Nat × Nat)) (louds : List Nat) (i p : Nat) : Bool :=
  (louds.take p).all (fun x => !bef tab i x) && match louds.drop p with
    | x :: _ => !bef tab x i
    | [] => true

def readsOk (P : Program) (ops : List Oper) (tab : List (Nat × Nat)) (louds : List Nat) (chk : List (Nat × List Nat)) : List Nat → Nat → Bool
  | [], _ => true
  | i :: r, k => (match ops[i]? with
    | some o => (isLoud P o.op || !isRead o.op || (List.range (louds.length + 1)).all fun p => p == k || ((chk.lookup i).getD []).contains p || !possible tab louds i p) &&
        readsOk P ops tab louds chk r (if isLoud P o.op then k + 1 else k)
    | none => false)

def regionOk (P : Program) (ops : List Oper) (a : RAnn) : Bool :=
  dstsOk ops && (List.range ops.length).all (fun i => a.order.contains i) &&
  match ancTab ops a.order [] with
  | some tab => let louds := a.order.filter (loudAt P ops); availOk ops tab && pairsOk ops tab a.flo louds && readsOk P ops tab louds a.chk a.order 0
  | none => false

def codeOk (P : Program) (A : FAnn) : Code → Bool
  | .region id ops true => match A.ord.lookup id with
    | some a => regionOk P ops.toList a
    | none => true
  | .seq a b | .cond _ a b | .rangeFunc _ _ a b => codeOk P A a && codeOk P A b
  | .block _ c | .loop c => codeOk P A c
  | _ => true

def funcOk (P : Program) (A : FAnn) (f : FuncId) : Bool := match (P.funcs[f]?).bind (·.body) with | some c => codeOk P A c | none => true

inductive Ex where
  | normal
  | exit (id : Nat)
  | ret
  deriving DecidableEq, Inhabited

/-! Sweeping: what no root leads to is given up. -/
def reach (H : Heap) (n0 : Nat) : Nat → List Nat → List Nat → Option (List Nat)
  | _, [], seen => some seen
  | 0, _ :: _, _ => none
  | k + 1, i :: todo, seen =>
    if i < n0 then reach H n0 k todo seen
    else if seen.contains i then reach H n0 k todo seen
    else match H.blk i with
      | some b => reach H n0 k (if b.flat then todo else b.root.refs ++ todo) (i :: seen)
      | none => reach H n0 k todo (i :: seen)

/-- Blocks from number i on: those of the list stay, the last ones that do not are cut off. -/
def prune (keep : List Nat) : Nat → Heap → Heap
  | _, [] => []
  | i, b :: r => match prune keep (i + 1) r with
    | [] => if keep.contains i then [b] else []
    | r' => (if keep.contains i then b else none) :: r'

def oldRefs (H : Heap) (n0 : Nat) : List Nat :=
  (H.take n0).flatMap fun b => match b with | some b => if b.flat then [] else b.root.refs | none => []

/-- Blocks from n0 on that the roots do not lead to are given up. -/
def sweep (H : Heap) (n0 : Nat) (roots : List Nat) (esc : Bool) : Option Heap :=
  if H.length = n0 then some H else
  (reach H n0 1000 (roots ++ (if esc then oldRefs H n0 else [])) []).map fun keep => H.take n0 ++ prune keep n0 (H.drop n0)

/-- .. where the notes do not say that nothing is given up (4243). -/
def sweepA (A : FAnn) (H : Heap) (n0 : Nat) (roots : List Nat) (esc : Bool) : Option Heap := match A.keep.lookup 4243 with
  | some _ => some H
  | none => sweep H n0 roots esc

/-- What such a function tells of what escapes: that it may. -/
def escA (A : FAnn) (e : Bool) : Bool := match A.keep.lookup 4243 with
  | some _ => true
  | none => e

def maskL (m : Nat) (l : List (Nat × AV)) : List (Nat × AV) := l.map fun x => if m.testBit x.1 then x else (x.1, .bad)

def rootsL (l : List (Nat × AV)) : List Nat := l.flatMap fun x => x.2.refs

/-- Blocks from n0 on numbered anew, in the order in which they are met. -/
def newOrd (H : Heap) (n0 : Nat) (keep : List Nat) : List Nat := List.range n0 ++ (keep.filter fun i => decide (i < H.length)).reverse
def cmpSt (n0 : Nat) (s : St) : Option St :=
  (reach s.H n0 1000 (rootsL s.L ++ (if s.esc then oldRefs s.H n0 else [])) []).map fun keep =>
    { s with L := s.L.map (fun x => (x.1, x.2.ren (idx (newOrd s.H n0 keep)))), H := pieceH (newOrd s.H n0 keep) s.H }

/-- The head of a loop: what is not kept is forgotten, and its blocks with it; where the mask says so, blocks are numbered anew. -/
def headSt (C : Ctx) (m : Nat) (s : St) : Option St :=
  let L := maskL m s.L
  if m.testBit 2001 then some { s with L, T := [], esc := true } else
  ((sweep s.H C.n0 (rootsL L) s.esc).map fun H => { s with L, T := [], H }).bind fun s => if m.testBit 2000 then cmpSt C.n0 s else some s

/-- A loop, as far as it goes round no more than k times. -/
def loopN (hd : St → Option St) (body : St → Option (Ex × St)) : Nat → St → Option (Ex × St)
  | 0, _ => none
  | k + 1, s => (hd s).bind fun s => (body s).bind fun x => match x.1 with
      | .normal => loopN hd body k x.2
      | e => some (e, x.2)

def unY : AV → AV
  | .yld => .bad
  | v => v

/-- What a round begins with. -/
def roundSt (C : Ctx) (ps : List Nat) (s : St) (args : List AV) (H : Heap) : St :=
  (ps.zip args).foldl (fun st q => st.set C.A q.1 (if q.1 < C.N then unY q.2 else .bad)) ⟨s.L.map fun x => (x.1, unY x.2), [], H, false⟩

def roundC (C : Ctx) (n0 : Nat) : Ctx := { C with n0, Y := noY, Rg := noR }

/-- A round, that goes to its end. -/
def roundY (C : Ctx) (ps : List Nat) (s : St) (ea eb : Ctx → St → Option (Ex × St)) : Yld := fun args H =>
  if args.length = ps.length then
    (ea (roundC C H.length) (roundSt C ps s args H)).bind fun x => match x.1 with
      | .normal => (eb (roundC C H.length) x.2).bind fun y => match y.1 with
        | .normal => (sweep y.2.H H.length [] y.2.esc).map fun H' => (H', y.2.esc)
        | _ => none
      | _ => none
  else none

/-- An iterator, of its own text. -/
def iterAV (C : Ctx) (Y : Yld) (h : FuncId) (caps : List AV) (H : Heap) : Option (AV × Heap × Bool) :=
  match C.P.funcs[h]? with
  | some fn => match fn.body with
    | some _ => if fn.name ≠ "runtime.NumGoroutine" then C.Rg Y h (.yld :: caps) H else none
    | none => none
  | none => none

/-- Code, as far as no loop goes round more than 'fuel' times. 'cur': the block that we are right in. -/
def evalC : Ctx → Nat → Nat → Code → St → Option (Ex × St)
  | _, _, _, .skip, s => some (.normal, s)
  | C, _, _, .region id ops draw, s => (runRegion C id ops draw s).map fun s => (.normal, { s with T := [] })
  | C, fuel, cur, .seq a b, s => (evalC C fuel cur a s).bind fun x => match x.1 with
      | .normal => evalC C fuel cur b x.2
      | e => some (e, x.2)
  | C, fuel, cur, .cond c a b, s => match s.eval C.A c with
      | .bool true => evalC C fuel cur a s
      | .bool false => evalC C fuel cur b s
      | _ => none
  | C, fuel, _, .block id c, s => (evalC C fuel id c s).map fun x => match x.1 with
      | .exit i => if i = id then (.normal, x.2) else (.exit i, x.2)
      | e => (e, x.2)
  | C, fuel, cur, .loop c, s => loopN (headSt C ((C.A.keep.lookup cur).getD 0)) (fun s => evalC C fuel 0 c s) fuel s
  | _, _, _, .exit i, s => some (.exit i, s)
  | _, _, _, .ret, s => some (.ret, s)
  | C, fuel, _, .rangeFunc g ps a b, s => match s.eval C.A g with
      | .func (.func h) [] caps =>
        (iterAV C (roundY C ps.toList s (fun C' s' => evalC C' fuel 0 a s') (fun C' s' => evalC C' fuel 0 b s')) h caps s.H).map fun r =>
          (.normal, { s with T := [], H := r.2.1, esc := s.esc || r.2.2 })
      | _ => none
  | _, _, _, _, _ => none

def initL (keys : List Nat) (args : List AV) : List (Nat × AV) := keys.map fun k => (k, (args[k]?).getD .bad)

def resultAV (C : Ctx) (s : St) : ResultVar → Option AV
  | .tmp t => some (s.get C.A t)
  | .cell a t => loadAV C.P s.H t (s.get C.A a)

def pickAV : List AV → AV
  | [v] => v
  | vs => .tuple (vs.map fun v => if v.plain then v else .bad)

/-- A function's text, once: with an oracle for what it calls. -/
def evalG (P : Program) (U : Out) (ann : FuncId → FAnn) (fuel : Nat) (K : Oracle) (Y : Yld) (Rg : Yld → Oracle) : Oracle := fun f args H =>
  (P.funcs[f]?).bind fun fn => fn.body.bind fun c =>
    let C : Ctx := ⟨P, K, H.length, max fn.ntmps args.length, ann f, U, Y, Rg⟩
    (evalC C fuel 0 c ⟨initL C.A.keys args, [], H, false⟩).bind fun x =>
      match x.1 with
      | .exit _ => none
      | _ => (fn.results.toList.mapM (resultAV C x.2)).bind fun vs =>
        let v := pickAV vs
        (sweepA (ann f) x.2.H H.length v.refs x.2.esc).map fun H' => (v, H', escA (ann f) x.2.esc)

def evalI (P : Program) (U : Out) (ann : FuncId → FAnn) (fuel : Nat) (K : Oracle) : Yld → Oracle := fun Y => evalG P U ann fuel K Y noR

def evalF (P : Program) (U : Out) (ann : FuncId → FAnn) (fuel : Nat) (K : Oracle) : Oracle := evalG P U ann fuel K noY (evalI P U ann fuel K)

/-- Functions that call each other no deeper than n. -/
def evalN (P : Program) (U : Out) (ann : FuncId → FAnn) (fuel : Nat) (K : Oracle) : Nat → Oracle
  | 0 => K
  | n + 1 => fun f args H => match K f args H with
    | some r => some r
    | none => evalF P U ann fuel (evalN P U ann fuel K n) f args H

end Go.X
/-
  Iterators and the rounds of those that range over them: what the relations say of them.
-/
namespace Go.X
open Go.RowKit (Below)

/-! ### Inside a round and outside -/

/-- The widest fence, for a round of l's or for none. -/
def FW (ro : Option Nat) : Fence := { Fence.wide with round := ro }

theorem about_wide (ro : Option Nat) (P : Program) (o : Oper) (w : World) (ρ : Operand → Value) : ∀ f, o.about P w ρ = some f → (FW ro).fn f := fun _ _ => trivial

theorem callsW {ro : Option Nat} {n : Nat} {P : Program} {f : FuncId} {args : Array Value} {w : World} {R : Ending → World → Prop} (h : Calls P f args w R) : CallsIn (FW ro) n P f args w R := by
  have h1 : CallsIn Fence.wide n P f args w R := callsIn_wide.2 h
  exact h1

theorem rowsW {ro : Option Nat} {n : Nat} {P : Program} {row : String} {args : Array Value} {w : World} {R : Value → World → Prop} (h : Rows P row args w R) : RowsIn (FW ro) n P row args w R := by
  have h1 : RowsIn Fence.wide n P row args w R := fun c cs _ => by
    obtain ⟨v, w', hr, hs⟩ := h c cs
    exact ⟨v, w', hr, stepsIn_wide.2 hs⟩
  exact h1

theorem wp_in {ro : Option Nat} {P : Program} {o : Oper} {a : Act} {w : World} {next : Act → World → Prop} {Q : Exit → Act → World → Prop} (hd : ∀ c, o.op ≠ .defer c) (h : o.wp P a w next Q) : o.wpIn (FW ro) 0 P a w next Q := by
  refine ⟨about_wide ro P o w _, ?_⟩
  rw [Oper.semAt_eq _ _ _ hd]
  unfold Oper.wp at h
  generalize (execOp a.eval o).run P w = r at h ⊢
  cases r with
  | ok x w' =>
    cases x <;> simp only [Oper.upon, Oper.uponIn] at h ⊢ <;> first
      | exact h
      | exact ⟨fun hh => absurd hh (by simp [FW, Fence.wide]), callsW h⟩
      | exact ⟨fun hh => absurd hh (by simp [FW, Fence.wide]), rowsW h⟩
  | halt x w' => cases x <;> simp only [Oper.upon, Oper.uponIn] at h ⊢ <;> exact h

theorem noDefer {C : Ctx} {s : St} {op : Op} {t : TypeId} {r : AV × Heap × Bool} (h : evalOp C s op t = some r) : ∀ c, op ≠ .defer c := by
  rintro c rfl
  cases h

/-! ### Another yield -/
def Env.as (E : Env) (l : Nat) : Env := ⟨E.loc, E.m, E.top, E.mloc, l⟩

theorem FR.as {E : Env} {l : Nat} {vs : List AV} {cs : List Value} (h : FR E vs cs) : FR (E.as l) vs cs :=
  FR.evol0 (E := E) (E' := E.as l) (k := E.top) ⟨fun _ _ L h => ⟨L, h, .inl rfl⟩, fun _ _ _ h => h, fun _ _ _ h => h⟩ (Nat.le_refl _) h h.refs_lt

theorem PR.as {E : Env} {l : Nat} {v : AV} {c : Value} (h : PR E v c) : PR (E.as l) v c := by
  obtain ⟨cs, h1, h2⟩ := h
  exact ⟨cs, h1.as, h2⟩

theorem VR.as {E : Env} {l : Nat} {v : AV} {c : Value} (h : VR E v c) (hv : v ≠ .yld) : VR (E.as l) v c := by
  cases v with
  | bad => trivial
  | undf => exact h
  | yld => exact absurd rfl hv
  | tuple vs =>
    obtain ⟨cvs, h1, h2, h3⟩ := h
    exact ⟨cvs, h1, h2, fun i v c hv hc => (h3 i v c hv hc).imp id PR.as⟩
  | _ => exact PR.as (show PR E _ c from h)

theorem GlobOk.as {G : Nat → Option AV} {E : Env} {l : Nat} (h : GlobOk G E) : GlobOk G (E.as l) := fun g v hg => (h g v hg).as (by simp)

theorem Tr.as {B k : Nat} {E E' : Env} {w w' : World} (h : Tr B k E w E' w') (l : Nat) : Tr B k (E.as l) w (E'.as l) w' :=
  ⟨h.below, ⟨h.evol.loc, h.evol.m, h.evol.mloc, rfl⟩, h.frame, h.ext, h.imm, h.objs, h.extM⟩

/-! ### Worlds that differ in what is no cells and no map -/

structure Other (w w' : World) : Prop where
  size : w.heap.size ≤ w'.heap.size
  cell : ∀ b o c, w.cell? ⟨b, o, none⟩ = some c → w'.cell? ⟨b, o, none⟩ = some c ∧ w'.frozen? ⟨b, o, none⟩ = w.frozen? ⟨b, o, none⟩
  map : ∀ (j : Nat) vs clock, w.heap[j]? = some (.map vs clock) → w'.heap[j]? = some (.map vs clock)

theorem Sim.other {B : Nat} {E : Env} {H : Heap} {w w' : World} (hs : Sim B E H w) (ho : Other w w') : Sim B E H w' := by
  refine ⟨hs.top, fun i bk hb => ?_, hs.dead, hs.apart, fun b o c hc => (ho.cell b o c (hs.imm b o c hc)).1, hs.immApart, hs.flat, Nat.le_trans hs.old ho.size, fun i es hi => ?_, hs.mdead, hs.mapart⟩
  · obtain ⟨L, h1, h2, h3⟩ := hs.live i bk hb
    refine ⟨L, h1, ⟨?_, h2.fits, fun j hj => ?_⟩, h3⟩
    · obtain ⟨cs, k1, k2, k3⟩ := h2.cs
      exact ⟨cs, k1, k2, fun j c hc => (ho.cell _ _ _ (k3 j c hc)).1⟩
    · obtain ⟨k1, k2⟩ := h2.room j hj
      obtain ⟨c, hc⟩ := Option.isSome_iff_exists.1 k1
      obtain ⟨g1, g2⟩ := ho.cell _ _ _ hc
      exact ⟨by rw [g1]; rfl, by rw [g2]; exact k2⟩
  · obtain ⟨b, h1, ⟨vs, clock, h2, h3⟩, h4⟩ := hs.mlive i es hi
    exact ⟨b, h1, ⟨vs, clock, ho.map _ _ _ h2, h3⟩, h4⟩

theorem Sim.as {B : Nat} {E : Env} {H : Heap} {w : World} (hs : Sim B E H w) (l : Nat) : Sim B (E.as l) H w := by
  refine ⟨hs.top, fun i bk hb => ?_, hs.dead, hs.apart, hs.imm, hs.immApart, hs.flat, hs.old, hs.mlive, hs.mdead, hs.mapart⟩
  obtain ⟨L, h1, h2, h3⟩ := hs.live i bk hb
  obtain ⟨cs, k1, k2, k3⟩ := h2.cs
  exact ⟨L, h1, ⟨⟨cs, k1.as, k2, k3⟩, h2.fits, h2.room⟩, h3⟩

theorem cell_none {w : World} {b o : Nat} (h : ∀ ob : Obj, w.heap[b]? = some ob → ob.isCells = false) : w.cell? ⟨b, o, none⟩ = none ∧ w.frozen? ⟨b, o, none⟩ = false := by
  constructor
  · cases hc : w.cell? ⟨b, o, none⟩ with
    | none => rfl
    | some c =>
      obtain ⟨ob, h1, h2⟩ := cells_of_cell hc
      rw [h ob h1] at h2
      cases h2
  · unfold World.frozen?
    cases ho : w.heap[b]? with
    | none => simp
    | some ob =>
      have := h ob ho
      cases ob <;> simp [Obj.isCells] at this <;> simp

/-- What lies at l is no cells, before and after: all cells read as they did. -/
theorem putObj_cell {w : World} {l : Nat} {ob ob' : Obj} (h : w.heap[l]? = some ob) (h1 : ob.isCells = false) (h2 : ob'.isCells = false) (b o : Nat) :
    (w.putObj l ob').cell? ⟨b, o, none⟩ = w.cell? ⟨b, o, none⟩ ∧ (w.putObj l ob').frozen? ⟨b, o, none⟩ = w.frozen? ⟨b, o, none⟩ := by
  by_cases hb : b = l
  · subst hb
    obtain ⟨k1, k2⟩ := cell_none (w := w) (b := b) (o := o) (fun x hx => by rw [h] at hx; cases hx; exact h1)
    obtain ⟨g1, g2⟩ := cell_none (w := w.putObj b ob') (b := b) (o := o) (fun x hx => by
      rw [World.putObj_heap_same (Array.getElem?_eq_some_iff.1 h).1] at hx; cases hx; exact h2)
    rw [k1, k2, g1, g2]
    exact ⟨rfl, rfl⟩
  · have := World.putObj_heap_other (w := w) (o := ob') hb
    exact ⟨World.cell?_of_block this, World.frozen?_of_block this⟩

def notMap : Obj → Bool
  | .map .. => false
  | _ => true

theorem Other.put {w : World} {l : Nat} {ob ob' : Obj} (h : w.heap[l]? = some ob) (h1 : ob.isCells = false) (h2 : ob'.isCells = false) (h3 : notMap ob = true) : Other w (w.putObj l ob') := by
  refine ⟨by simp, fun b o c hc => ?_, fun j vs clock hj => ?_⟩
  · obtain ⟨k1, k2⟩ := putObj_cell h h1 h2 b o
    exact ⟨k1.trans hc, k2⟩
  · have : j ≠ l := by
      rintro rfl
      rw [h] at hj
      cases hj
      cases h3
    exact (World.putObj_heap_other this).trans hj

theorem Other.alloc (w : World) (o : Obj) : Other w (w.alloc o) := by
  have key : ∀ (b : Nat) ob, w.heap[b]? = some ob → (w.alloc o).heap[b]? = w.heap[b]? := fun b ob hb => Below.heap_alloc w o b (Array.getElem?_eq_some_iff.1 hb).1
  refine ⟨by simp, fun b i c hc => ?_, fun j vs clock hj => (key j _ hj).trans hj⟩
  obtain ⟨ob, h1, _⟩ := cells_of_cell hc
  exact ⟨(World.cell?_of_block (a := ⟨b, i, none⟩) (key b ob h1)).trans hc, World.frozen?_of_block (a := ⟨b, i, none⟩) (key b ob h1)⟩

theorem below_put {B : Nat} {w : World} {l : Nat} (o : Obj) (hl : B ≤ l) : Below B w (w.putObj l o) :=
  ⟨rfl, rfl, rfl, by simp, fun k hk => World.putObj_heap_other (by omega)⟩

theorem tr_alloc {B k : Nat} {E : Env} {w : World} (hB : B ≤ w.heap.size) (o : Obj) : Tr B k E w E (w.alloc o) :=
  ⟨(Below.refl B w).alloc hB o, Evol.refl _ _, fun b _ hb _ => ⟨World.cell?_of_block (Below.heap_alloc w o b hb), World.frozen?_of_block (Below.heap_alloc w o b hb)⟩, fun _ _ _ h => h, fun _ _ _ _ h => .inl h,
    fun j _ hj _ _ => (Below.heap_alloc w o j (Array.getElem?_eq_some_iff.1 hj).1).trans hj, fun _ _ h => h⟩

/-- At the end something is turned that was not there at the begin. -/
theorem Tr.put {B k : Nat} {E E' : Env} {w w' : World} (h : Tr B k E w E' w') {l : Nat} {ob ob' : Obj} (hB : B ≤ l) (hl : w.heap.size ≤ l) (ho : w'.heap[l]? = some ob) (h1 : ob.isCells = false) (h2 : ob'.isCells = false) :
    Tr B k E w E' (w'.putObj l ob') := by
  refine ⟨h.below.trans (below_put ob' hB), h.evol, fun b o hb hn => ?_, h.ext, h.imm, fun j o hj hn hm => ?_, h.extM⟩
  · obtain ⟨k1, k2⟩ := h.frame b o hb hn
    obtain ⟨g1, g2⟩ := putObj_cell ho h1 h2 b o
    exact ⟨g1.trans k1, g2.trans k2⟩
  · have hlt := (Array.getElem?_eq_some_iff.1 hj).1
    exact (World.putObj_heap_other (by omega)).trans (h.objs j o hj hn hm)

/-! ### Marks -/

/-- Deferred are marks of ranges over iterators alone, whose blocks are new and hold nothing. -/
def Marks (w0 : World) (a : Act) (w : World) : Prop := a.defers.Nodup ∧ ∀ d ∈ a.defers, ∃ D, d = { target := .collected D, args := #[] } ∧ w0.heap.size ≤ D ∧ w.heap[D]? = some (.deferred (some []))

theorem Marks.nil {w0 w : World} {ts : Array Value} : Marks w0 { tmps := ts, defers := [] } w := ⟨List.nodup_nil, fun d hd => by simp at hd⟩

theorem Marks.keeps {w0 w w' : World} {a a' : Act} (h : Marks w0 a w) (hd : a'.defers = a.defers) (ho : ∀ D : Nat, w.heap[D]? = some (Obj.deferred (some [])) → w'.heap[D]? = some (Obj.deferred (some []))) : Marks w0 a' w' := by
  refine ⟨by rw [hd]; exact h.1, fun d hm => ?_⟩
  rw [hd] at hm
  obtain ⟨D, h1, h2, h3⟩ := h.2 d hm
  exact ⟨D, h1, h2, ho D h3⟩

theorem no_inM {B : Nat} {E : Env} {H : Heap} {w : World} (hs : Sim B E H w) {j : Nat} {o : Obj} (ho : w.heap[j]? = some o) (hm : notMap o = true) : ¬ InM E j := by
  rintro ⟨i, hi⟩
  obtain ⟨es, he⟩ := hs.mdead i j hi
  obtain ⟨b, h1, ⟨vs, clock, h2, _⟩, _⟩ := hs.mlive i es he
  obtain rfl : j = b := by rw [hi] at h1; exact Option.some.inj h1
  rw [ho] at h2
  cases h2
  cases hm

theorem Marks.later {B k : Nat} {E E' : Env} {H : Heap} {w0 w w' : World} {a a' : Act} (h : Marks w0 a w) (hs : Sim B E H w) (ht : Tr B k E w E' w') (hd : a'.defers = a.defers) : Marks w0 a' w' :=
  h.keeps hd (fun D hD => ht.objs D _ hD rfl (no_inM hs hD rfl))

theorem put_defers (a : Act) (dst : Option Nat) (c : Value) : (a.put dst c).defers = a.defers := by cases dst <;> rfl

end Go.X
/-
  Regions, in the order of the text.
-/
namespace Go.X
open Go.RowKit (Below)

/-- What holds on the way through a function's text. -/
structure IV (C : Ctx) (B : Nat) (E0 : Env) (H0 : Heap) (w0 : World) (E : Env) (s : St) (a : Act) (w : World) : Prop where
  sr : SR C B E s a w
  tr : Tr B C.n0 E0 w0 E w
  marks : Marks w0 a w
  sub : s.esc = false → Sub C.n0 H0 s.H

section
variable {C : Ctx} {B : Nat} {E0 E : Env} {H0 : Heap} {w0 : World} {s s' : St} {a : Act} {w : World} {K : Act → World → Prop} {Q : Exit → Act → World → Prop}

theorem put_none (a : Act) (c : Value) : a.put none c = a := rfl

def St.res (C : Ctx) (s : St) (dst : Option Nat) (v : AV) (H : Heap) (e : Bool) : St :=
  let s' : St := { s with H, esc := s.esc || e }
  match dst with
  | some d => s'.set C.A d (if d < C.N then v else .bad)
  | none => s'

theorem St.set_H (A : FAnn) (s : St) (d : Nat) (v : AV) : (s.set A d v).H = s.H := by unfold St.set; split <;> rfl
theorem St.set_esc (A : FAnn) (s : St) (d : Nat) (v : AV) : (s.set A d v).esc = s.esc := by unfold St.set; split <;> rfl
theorem St.res_H (dst : Option Nat) (v : AV) (H : Heap) (e : Bool) : (St.res C s dst v H e).H = H := by unfold St.res; split <;> simp [St.set_H]
theorem St.res_esc (dst : Option Nat) (v : AV) (H : Heap) (e : Bool) : (St.res C s dst v H e).esc = (s.esc || e) := by unfold St.res; split <;> simp [St.set_esc]

theorem IV.step {E' : Env} {w' : World} {v : AV} {c : Value} {H' : Heap} {e : Bool} (h : IV C B E0 H0 w0 E s a w) (hr : Res B C.n0 E s.H w v H' e E' w' c) (dst : Option Nat) :
    IV C B E0 H0 w0 E' (s.res C dst v H' e) (a.put dst c) w' := by
  have h1 := h.sr.later hr
  refine ⟨?_, h.tr.trans (hr.tr.mono h.sr.len), h.marks.later h.sr.sim hr.tr (put_defers _ _ _), fun he => ?_⟩
  · unfold St.res
    split
    · rename_i d
      by_cases hd : d < C.N
      · rw [if_pos hd]; exact h1.set hr.val (.inl hd)
      · rw [if_neg hd]; exact h1.set (v := .bad) trivial (.inr (.inl rfl))
    · exact h1
  · rw [St.res_esc, Bool.or_eq_false_iff] at he
    rw [St.res_H]
    exact (h.sub he.1).trans (hr.sub he.2)

theorem IV.skip (h : IV C B E0 H0 w0 E s a w) (dst : Option Nat) : IV C B E0 H0 w0 E (match dst with | some d => s.set C.A d .undf | none => s) (a.put dst undef) w := by
  cases dst with
  | none => exact h
  | some d => exact ⟨h.sr.set (v := .undf) rfl (.inr (.inr rfl)), h.tr, h.marks.keeps (put_defers _ _ _) (fun _ h => h), by simpa [St.set_H, St.set_esc] using h.sub⟩

theorem wanted_ok (h : SR C B E s a w) {ops : Array Oper} {o : Oper} {b : Bool} (hw : wantedAV C.A ops.toList s o = some b) : Region.wanted o (yielded ops a.tmps) = b := by
  unfold wantedAV at hw
  unfold Region.wanted
  split at hw
  · rename_i hg
    rw [hg]
    simpa using hw
  · rename_i j want hg
    rw [hg]
    split at hw
    · rename_i d hd
      split at hw
      · rename_i x hx
        have hv := h.vals d
        rw [hx] at hv
        have hb := hv.bool_inv
        have : a.tmps[d]? = some (.bool x) := by
          rw [Array.getD_eq_getD_getElem?] at hb
          cases hq : a.tmps[d]? with
          | none => rw [hq] at hb; simp [undef] at hb
          | some u => rw [hq] at hb; simpa using hb
        have hd' : (ops[j]?).bind (·.dst) = some d := by simpa using hd
        have hy : yielded ops a.tmps j = some x := by
          unfold yielded
          rw [hd']
          simp [this]
        simp only [hy]
        obtain rfl := Option.some.inj hw
        cases x <;> cases want <;> rfl
      · rename_i hx
        have hv := h.vals d
        rw [hx] at hv
        have hb : a.tmps.getD d undef = undef := hv
        have hd' : (ops[j]?).bind (·.dst) = some d := by simpa using hd
        have hy : yielded ops a.tmps j = none := by
          unfold yielded
          rw [hd']
          rw [Array.getD_eq_getD_getElem?] at hb
          cases hq : a.tmps[d]? with
          | none => simp [hq]
          | some u =>
            rw [hq] at hb
            simp only [Option.getD_some] at hb
            subst hb
            simp [hq, undef]
        simp only [hy]
        obtain rfl := Option.some.inj hw
        rfl
      · simp at hw
    · simp at hw

theorem stepOp_res {ops : List Oper} {o : Oper} (h : stepOp C ops s o = some s') : ∃ b, wantedAV C.A ops s o = some b ∧
    ((b = true ∧ ∃ v H' e, evalOp C s o.op o.type = some (v, H', e) ∧ s' = s.res C o.dst v H' e) ∨ (b = false ∧ s' = match o.dst with | some d => s.set C.A d .undf | none => s)) := by
  unfold stepOp at h
  simp only [Option.bind_eq_some_iff] at h
  obtain ⟨b, hb, h⟩ := h
  refine ⟨b, hb, ?_⟩
  split at h
  · rename_i hbt
    simp only [Option.map_eq_some_iff, Prod.exists] at h
    obtain ⟨v, H', e, h1, h2⟩ := h
    exact .inl ⟨hbt, v, H', e, h1, h2.symm⟩
  · rename_i hbf
    exact .inr ⟨by simpa using hbf, (Option.some.inj h).symm⟩

theorem step_wp {ro : Option Nat} (hK : Snd C B E0 w0) (hI : IV C B E0 H0 w0 E s a w) {ops : Array Oper} {o : Oper} (h : stepOp C ops.toList s o = some s') (hn : ∀ E' a' w', IV C B E0 H0 w0 E' s' a' w' → K a' w') :
    if Region.wanted o (yielded ops a.tmps) then o.wpIn (FW ro) 0 C.P a w K Q else (∀ f, o.about C.P w a.eval = some f → (FW ro).fn f) ∧ K (a.put o.dst undef) w := by
  obtain ⟨b, hb, h⟩ := stepOp_res h
  rw [wanted_ok hI.sr hb]
  rcases h with ⟨rfl, v, H', e, he, rfl⟩ | ⟨rfl, rfl⟩
  · simp only [if_true]
    exact wp_in (noDefer he) (op_ok hK.k hK.x (hK.g.evol hI.tr.evol) hI.sr he (fun E' w' c hr => hn E' _ w' (hI.step hr o.dst)))
  · simp only [Bool.false_eq_true, if_false]
    exact ⟨about_wide _ _ _ _ _, hn E _ w (hI.skip o.dst)⟩

/-- A call of yield. -/
theorem yield_wp {ro : Option Nat} (hK : Snd C B E0 w0) (hI : IV C B E0 H0 w0 E s a w) {ops : Array Oper} {o : Oper} (h : stepY C ops.toList s o = some s') (hn : ∀ E' a' w', IV C B E0 H0 w0 E' s' a' w' → K a' w') :
    if Region.wanted o (yielded ops a.tmps) then o.wpIn (FW ro) 0 C.P a w K Q else (∀ f, o.about C.P w a.eval = some f → (FW ro).fn f) ∧ K (a.put o.dst undef) w := by
  unfold stepY at h
  split at h
  · rename_i f args argTypes hop
    split at h
    · rename_i hc
      simp only [Bool.and_eq_true, Option.isNone_iff_eq_none] at hc
      have hw : Region.wanted o (yielded ops a.tmps) = true := by unfold Region.wanted; rw [hc.2]
      rw [if_pos hw]
      simp only [Option.map_eq_some_iff, Prod.exists] at h
      obtain ⟨H', e, hY, rfl⟩ := h
      have hf : s.eval C.A f = .yld := by
        have := hc.1
        cases hv : s.eval C.A f <;> rw [hv] at this <;> first | rfl | cases this
      have hcf : a.eval f = .func (.yield E.yl) #[] #[] := by
        have := hI.sr.eval f
        rw [hf] at this
        exact this
      obtain ⟨fn, tmps, asg, body, hy, hR⟩ := hK.y _ _ _ _ hY E w (args.toList.map a.eval) hI.tr hI.sr.sim hI.sr.len (by simp) (args_ok hI.sr args.toList)
      have hrun : (execOp a.eval o).run C.P w = .ok (.round E.yl fn tmps asg body) w := by
        have harr : (args.map a.eval) = (args.toList.map a.eval).toArray := Array.ext' (by simp)
        obtain ⟨dst, op, ty, pos, after, guard⟩ := o
        simp only at hop
        subst hop
        simp only [execOp, resolve, Deferred.ofValue, hcf]
        rw [← harr] at hy
        simpa [invoke] using hy
      refine ⟨about_wide _ _ _ _ _, ?_⟩
      rw [Oper.semAt_eq _ _ _ (fun c hh => by rw [hop] at hh; cases hh), hrun]
      refine ⟨fun hh => absurd hh (by simp [FW, Fence.wide]), ?_⟩
      have hR' : RoundIn Fence.wide 0 C.P E.yl fn tmps asg body w (fun
          | .returned v, w'' => K (a.put o.dst v) w''
          | .panicked chain, w'' => Q (.panic chain) a w''
          | .outgrown, _ => LetsOut Q) := hR.mono (fun en w' ⟨h1, E', h2⟩ => by
        subst h1
        refine hn E' _ w' ?_
        have := hI.step (v := .bool true) (c := .bool true) ⟨h2.sim, h2.val, h2.tr, h2.len, fun he => (h2.sub he).mono hI.sr.len⟩ o.dst
        exact this)
      exact hR'
    · exact step_wp hK hI h hn
  · exact step_wp hK hI h hn

theorem runOps_wp {ro : Option Nat} (hK : Snd C B E0 w0) {ops : Array Oper} {s1 : St} : ∀ (l : List Oper) (k : Nat) (s : St) (E : Env) (a : Act) (w : World), (∀ j, l[j]? = ops[k + j]?) → IV C B E0 H0 w0 E s a w →
    runOps C ops.toList l s = some s1 → (∀ E' a' w', IV C B E0 H0 w0 E' s1 a' w' → Q .normal a' w') → wpOpsIn (FW ro) 0 C.P ops Q (List.range' k l.length) a w
  | [], k, s, E, a, w, _, hI, h, hn => by
    obtain rfl := Option.some.inj h
    exact hn E a w hI
  | o :: l, k, s, E, a, w, hl, hI, h, hn => by
    simp only [runOps, Option.bind_eq_some_iff] at h
    obtain ⟨s', h1, h2⟩ := h
    have ho : ops[k]? = some o := by have := hl 0; simpa using this.symm
    simp only [List.length_cons, List.range'_succ, wpOpsIn, ho]
    exact yield_wp hK hI h1 (fun E' a' w' hI' => runOps_wp hK l (k + 1) s' E' a' w' (fun j => by have := hl (j + 1); simpa [Nat.add_assoc, Nat.add_comm 1 j] using this) hI' h2 hn)

theorem IV.forget (h : IV C B E0 H0 w0 E s a w) : IV C B E0 H0 w0 E { s with T := [] } a w := by
  refine ⟨⟨h.sr.sim, fun t => ?_, h.sr.size, h.sr.len⟩, h.tr, h.marks, h.sub⟩
  have := h.sr.vals t
  unfold St.get at this ⊢
  split
  · rename_i hb; simpa [hb] using this
  · trivial

end
end Go.X
/-
  Operations that change nothing; what an operation hangs on; parts of a state hidden.
-/
namespace Go.X
open Go.RowKit (Below)

section
variable {C : Ctx} {s s' : St}

mutual
theorem AV.beq_eq : ∀ (x y : AV), x.beq y = true → x = y
  | .int j a, y, h => by cases y <;> simp_all [AV.beq]
  | .bool a, y, h => by cases y <;> simp_all [AV.beq]
  | .str a, y, h => by cases y <;> simp_all [AV.beq]
  | .nilp, y, h => by cases y <;> simp_all [AV.beq]
  | .ptr p, y, h => by cases y <;> simp_all [AV.beq]
  | .nils, y, h => by cases y <;> simp_all [AV.beq]
  | .sl p a b c d, y, h => by cases y <;> simp_all [AV.beq]
  | .nilm, y, h => by cases y <;> simp_all [AV.beq]
  | .nilf, y, h => by cases y <;> simp_all [AV.beq]
  | .hnd a b, y, h => by cases y <;> simp_all [AV.beq]
  | .nili, y, h => by cases y <;> simp_all [AV.beq]
  | .iface t v, y, h => by
    cases y <;> simp [AV.beq] at h
    rw [h.1, AV.beq_eq v _ h.2]
  | .agg n xs, y, h => by
    cases y <;> simp [AV.beq] at h
    rw [h.1, beqL_eq xs _ h.2]
  | .arr n xs, y, h => by
    cases y <;> simp [AV.beq] at h
    rw [h.1, beqL_eq xs _ h.2]
  | .isl n xs, y, h => by
    cases y <;> simp [AV.beq] at h
    rw [h.1, beqL_eq xs _ h.2]
  | .iptr v, y, h => by
    cases y <;> simp [AV.beq] at h
    rw [AV.beq_eq v _ h]
  | .map i, y, h => by cases y <;> simp_all [AV.beq]
  | .bad, y, h => by simp [AV.beq] at h
  | .func .., y, h => by simp [AV.beq] at h
  | .tuple _, y, h => by simp [AV.beq] at h
theorem beqL_eq : ∀ (x y : List AV), beqL x y = true → x = y
  | [], y, h => by cases y <;> simp_all [beqL]
  | x :: xs, y, h => by
    cases y <;> simp [beqL] at h
    rw [AV.beq_eq x _ h.1, beqL_eq xs _ h.2]
end

theorem mm (r : Option AV) (H1 H2 : Heap) : (r.map fun v => (v, H2, false)) = (r.map fun v => (v, H1, false)).map fun (r : AV × Heap × Bool) => (r.1, H2, false) := by cases r <;> rfl

theorem quiet_map {op : Op} {ty : TypeId} (hl : isLoud C.P op = false) (hr : isRead op = false) (H2 : Heap) : evalOp C { s with H := H2 } op ty = (evalOp C s op ty).map fun r => (r.1, H2, false) := by
  have hevf : ∀ H2, St.eval C.A { s with H := H2 } = s.eval C.A := fun H2 => funext (fun x => by cases x <;> rfl)
  cases op <;> simp only [isLoud, isRead, reduceCtorEq] at hl hr <;> simp only [evalOp, hevf]
  case move x => exact mm _ _ _
  case assign x => exact mm _ _ _
  case pick c x y =>
    cases s.eval C.A c <;> try rfl
    rename_i b
    cases b <;> rfl
  case build t ps => exact mm _ _ _
  case nilCheck x =>
    cases s.eval C.A x <;> try rfl
    rename_i f _ _
    cases f <;> rfl
  case binOp o t x y yt =>
    cases (s.eval C.A x).scalar <;> cases (s.eval C.A y).scalar <;> try rfl
    · simp only
      split
      · rfl
      · cases o <;> first | rfl | exact mm _ _ _
    · exact mm _ _ _
  case unOp o t x => exact mm _ _ _
  case sliceToArrayPointer t x =>
    cases C.P.underlying t <;> try rfl
    rename_i d
    cases d <;> try rfl
    cases s.eval C.A x <;> try rfl
    · simp only
      split
      · split <;> rfl
      · rfl
    · simp only
      split <;> rfl
  case makeInterface t x =>
    cases C.P.underlying t <;> try rfl
    rename_i d
    cases d <;> first | rfl | (simp only; split <;> rfl)
  case makeFunc fn first captured =>
    cases fn <;> try rfl
    simp only
    split <;> rfl
  case fieldAddr t x f => exact mm _ _ _
  case field t x f => exact mm _ _ _
  case indexAddr t x i => exact mm _ _ _
  case index t x i => exact mm _ _ _
  case typeAssert x xt asl ok => exact mm _ _ _
  case extract t i =>
    cases s.eval C.A t <;> first | rfl | exact mm _ _ _
  case call c =>
    obtain ⟨callee, args, argTypes⟩ := c
    cases callee with
    | value f => simp at hl
    | invoke r m => simp at hl
    | builtin b =>
      simp only
      generalize args.toList.map (s.eval C.A) = avs
      cases b <;> simp only [reduceCtorEq] at hl
      case len =>
        match avs with
        | [] => rfl
        | [x] =>
          simp only [evalBuiltin]
          cases argTypes[0]? with
          | none => rfl
          | some t =>
            simp only [Option.bind_some]
            cases C.P.underlying t with
            | none => rfl
            | some d =>
              cases d <;> try rfl
              · cases x <;> rfl
              · rename_i u
                simp only
                cases C.P.underlying u with
                | none => rfl
                | some d => cases d <;> rfl
              · cases x <;> first | rfl | exact mm _ _ _
        | _ :: _ :: _ => rfl
      case min =>
        match avs with
        | [] => rfl
        | x :: xs => exact mm _ _ _
      case max =>
        match avs with
        | [] => rfl
        | x :: xs => exact mm _ _ _

theorem quiet_ok {op : Op} {ty : TypeId} {v : AV} {H' : Heap} {e : Bool} (h : evalOp C s op ty = some (v, H', e)) (hl : isLoud C.P op = false) : H' = s.H ∧ e = false ∧
    (isRead op = false → ∀ H2, evalOp C { s with H := H2 } op ty = some (v, H2, false)) := by
  by_cases hr : isRead op = true
  · refine (fun (k : H' = s.H ∧ e = false) => ⟨k.1, k.2, fun hh => by simp [hr] at hh⟩) ?_
    cases op <;> simp only [isRead, reduceCtorEq] at hr
    case load t x =>
      cases x <;> (simp only [evalOp] at h; exact (q_inv h).2)
    case convert src d x =>
      simp only [evalOp, Option.map_eq_some_iff, Prod.mk.injEq, Prod.exists] at h
      obtain ⟨v1, H1, h1, rfl, rfl, rfl⟩ := h
      refine ⟨?_, rfl⟩
      unfold convertAV at h1
      split at h1
      · exact (Prod.mk.inj (Option.some.inj h1)).2.symm
      · exact (Prod.mk.inj (Option.some.inj h1)).2.symm
      · rename_i hu _; simp [isLoud, hu] at hl
      · split at h1
        · simp only [Option.bind_eq_some_iff, Option.map_eq_some_iff, Prod.mk.injEq] at h1
          obtain ⟨_, _, _, _, _, h2⟩ := h1
          exact h2.symm
        · simp at h1
      · simp at h1
    case slice t x lo hi mx =>
      cases mx with
      | none => simp only [evalOp] at h; exact (q_inv h).2
      | some m =>
        cases hi with
        | none => simp [evalOp] at h
        | some hi => simp only [evalOp] at h; exact (q_inv h).2
  · have hr' : isRead op = false := by simpa using hr
    have k := fun H2 => quiet_map (C := C) (s := s) (ty := ty) hl hr' H2
    have k0 := k s.H
    rw [show ({ s with H := s.H } : St) = s from rfl, h] at k0
    simp only [Option.map_some, Option.some.injEq, Prod.mk.injEq, true_and] at k0
    exact ⟨k0.1, k0.2, fun _ H2 => by rw [k, h]; rfl⟩

theorem evalOp_congr {op : Op} {ty : TypeId} (hH : s.H = s'.H) (h : ∀ x ∈ op.operands.toList, s.eval C.A x = s'.eval C.A x) : evalOp C s op ty = evalOp C s' op ty := by
  cases op <;> try simp only [evalOp]
  case load t x =>
    cases x with
    | global g => simp only; rw [hH]
    | tmp t => simp only; rw [hH, h (.tmp t) (by simp [Op.operands])]
    | const c => simp only; rw [hH]; rfl
    | func f => simp only; rw [hH]; rfl
  case build t ps =>
    have : (ps.toList.map fun x => (x.1, s.eval C.A x.2)) = ps.toList.map fun x => (x.1, s'.eval C.A x.2) := List.map_congr_left (fun x hx => by
      rw [h x.2 (by simp only [Op.operands, List.mem_map]; exact ⟨x, hx, rfl⟩)])
    rw [hH, this]
  case buildSlice t n ps =>
    have : (ps.toList.map fun x => (x.1, s.eval C.A x.2)) = ps.toList.map fun x => (x.1, s'.eval C.A x.2) := List.map_congr_left (fun x hx => by
      rw [h x.2 (by simp only [Op.operands, List.mem_map]; exact ⟨x, hx, rfl⟩)])
    rw [hH, this]
  case makeFunc fn first captured =>
    have h1 : first.toList.map (s.eval C.A) = first.toList.map (s'.eval C.A) := List.map_congr_left (fun x hx => h x (by simp [Op.operands]; left; simpa using hx))
    have h2 : captured.toList.map (s.eval C.A) = captured.toList.map (s'.eval C.A) := List.map_congr_left (fun x hx => h x (by simp [Op.operands]; right; simpa using hx))
    rw [hH, h1, h2]
  case slice t x lo hi mx =>
    cases mx with
    | some m =>
      cases hi with
      | none => rfl
      | some hi =>
        simp only
        have h0 := h x (by simp [Op.operands])
        have h1 : lo.map (s.eval C.A) = lo.map (s'.eval C.A) := by
          cases lo with
          | none => rfl
          | some y => simp only [Option.map_some]; rw [h y (by simp [Op.operands])]
        rw [hH, h0, h1, h hi (by simp [Op.operands]), h m (by simp [Op.operands])]
    | none =>
      simp only
      have h0 := h x (by simp [Op.operands])
      have h1 : lo.map (s.eval C.A) = lo.map (s'.eval C.A) := by
        cases lo with
        | none => rfl
        | some y => simp only [Option.map_some]; rw [h y (by simp [Op.operands])]
      have h2 : hi.map (s.eval C.A) = hi.map (s'.eval C.A) := by
        cases hi with
        | none => rfl
        | some y => simp only [Option.map_some]; rw [h y (by simp [Op.operands])]
      rw [hH, h0, h1, h2]
  case makeMap t r =>
    cases r with
    | none => simp only; rw [hH]
    | some r => rfl
  case lookup t x i ok => rw [hH, h x (by simp [Op.operands]), h i (by simp [Op.operands])]
  case mapUpdate t m k v => rw [hH, h m (by simp [Op.operands]), h k (by simp [Op.operands]), h v (by simp [Op.operands])]
  case call c =>
    have h1 : c.args.toList.map (s.eval C.A) = c.args.toList.map (s'.eval C.A) := List.map_congr_left (fun x hx => h x (by simp [Op.operands, Call.operands]; right; simpa using hx))
    rw [h1]
    cases hc : c.callee with
    | builtin b =>
      simp only
      unfold evalBuiltin
      rw [hH]
    | value f =>
      simp only
      rw [h f (by simp [Op.operands, Call.operands, hc])]
      congr 1
      funext x
      unfold enterAV
      rw [hH]
    | invoke r m =>
      simp only
      rw [h r (by simp [Op.operands, Call.operands, hc])]
      congr 1
      funext x
      unfold enterAV
      rw [hH]
  all_goals first
    | rfl
    | (simp only [hH]; done)
    | (rename_i x; simp only [hH, h x (by simp [Op.operands])]; done)
    | (rename_i x _; simp only [hH, h x (by simp [Op.operands])]; done)
    | (rename_i x y; simp only [hH, h x (by simp [Op.operands]), h y (by simp [Op.operands])]; done)
    | (rename_i x y _; simp only [hH, h x (by simp [Op.operands]), h y (by simp [Op.operands])]; done)
    | (rename_i x _ _; simp only [hH, h x (by simp [Op.operands])]; done)
    | (rename_i x y z; simp only [hH, h x (by simp [Op.operands]), h y (by simp [Op.operands]), h z (by simp [Op.operands])]; done)
    | (rename_i x _ _ _; simp only [hH, h x (by simp [Op.operands])]; done)

/-! Some temporaries hidden. -/
def hide (dead : Nat → Bool) (s : St) : St :=
  { s with L := s.L.map fun x => if dead x.1 then (x.1, .bad) else x, T := s.T.map fun x => if dead x.1 then (x.1, .bad) else x }

theorem look_hide (dead : Nat → Bool) (t : Nat) : ∀ (l : List (Nat × AV)), look (l.map fun x => if dead x.1 then (x.1, .bad) else x) t = if dead t then .bad else look l t
  | [] => by simp [look]
  | (k, v) :: l => by
    have ih := look_hide dead t l
    simp only [List.map_cons]
    by_cases hk : k = t
    · subst hk
      by_cases hd : dead k <;> simp [look, hd]
    · by_cases hd : dead k <;> simp [look, hd, hk, ih]

theorem hide_get (dead : Nat → Bool) (s : St) (A : FAnn) (t : Nat) : (hide dead s).get A t = if dead t then .bad else s.get A t := by
  unfold hide St.get
  split <;> exact look_hide dead t _

theorem set_get_ne {A : FAnn} {s : St} {d t : Nat} {v : AV} (h : d ≠ t) : (s.set A d v).get A t = s.get A t := by
  unfold St.set St.get
  split
  · split
    · simp only; rw [look_upd, if_neg (fun e => h e.symm)]
    · rfl
  · split
    · rfl
    · simp [look, h]

theorem set_get_self {A : FAnn} {s : St} {d : Nat} {v : AV} : (s.set A d v).get A d = v ∨ (s.set A d v).get A d = .bad := by
  unfold St.set St.get
  split
  · simp only; exact look_upd_self _ _ _
  · simp [look]

theorem stepOp_get {ops : List Oper} {o : Oper} (h : stepOp C ops s o = some s') {t : Nat} (ht : o.dst ≠ some t) : s'.get C.A t = s.get C.A t := by
  obtain ⟨b, _, h⟩ := stepOp_res h
  rcases h with ⟨_, v, H', e, _, rfl⟩ | ⟨_, rfl⟩
  · unfold St.res
    split
    · rename_i d hd
      exact set_get_ne (fun e => ht (by rw [hd, e]))
    · rfl
  · split
    · rename_i d hd
      exact set_get_ne (fun e => ht (by rw [hd, e]))
    · rfl

theorem quiet_step {ops : List Oper} {o : Oper} (h : stepOp C ops s o = some s') (hl : isLoud C.P o.op = false) : s'.H = s.H ∧ s'.esc = s.esc := by
  obtain ⟨b, _, h⟩ := stepOp_res h
  rcases h with ⟨_, v, H', e, he, rfl⟩ | ⟨_, rfl⟩
  · obtain ⟨h1, h2, _⟩ := quiet_ok he hl
    exact ⟨by rw [St.res_H, h1], by rw [St.res_esc, h2]; simp⟩
  · split
    · exact ⟨St.set_H _ _ _ _, St.set_esc _ _ _ _⟩
    · exact ⟨rfl, rfl⟩

end
end Go.X
/-
  Regions that draw their order.
-/
namespace Go.X
open Go.RowKit (Below)

section
variable {P : Program} {ops : List Oper}

/-- A set of operations that goes down. -/
def Down (ops : List Oper) (S : Nat → Prop) : Prop := ∀ i o, S i → ops[i]? = some o → ∀ j ∈ precs o, S j

/-- What a mask says of those who come before. -/
def Says (ops : List Oper) (js : List Nat) (x : Nat) : Prop :=
  ∀ S, Down ops S → (∀ j ∈ js, S j) → ∀ j, x.testBit j = true → S j

def TabOk (ops : List Oper) (tab : List (Nat × Nat)) : Prop := ∀ i x, tab.lookup i = some x → ∃ o, ops[i]? = some o ∧ Says ops (precs o) x

theorem ancOf_ok {tab : List (Nat × Nat)} (ht : TabOk ops tab) : ∀ (js : List Nat) (x : Nat), ancOf tab js = some x → Says ops js x ∧ ∀ j ∈ js, (tab.lookup j).isSome = true
  | [], x, h => by
    obtain rfl := Option.some.inj h
    exact ⟨fun S hS hj j h => by simp at h, fun j hj => by simp at hj⟩
  | j :: r, x, h => by
    simp only [ancOf, Option.bind_eq_some_iff, Option.map_eq_some_iff] at h
    obtain ⟨y, hy, z, hz, rfl⟩ := h
    obtain ⟨ih1, ih2⟩ := ancOf_ok ht r z hz
    obtain ⟨o, ho, hsay⟩ := ht j y hy
    refine ⟨fun S hS hj k hk => ?_, fun k hk => ?_⟩
    · have hSj := hj j List.mem_cons_self
      simp only [Nat.testBit_or, Bool.or_eq_true, Nat.testBit_two_pow, decide_eq_true_eq] at hk
      rcases hk with (rfl | hk) | hk
      · exact hSj
      · exact hsay S hS (hS j o hSj ho) k hk
      · exact ih1 S hS (fun k hk => hj k (List.mem_cons_of_mem _ hk)) k hk
    · rcases List.mem_cons.1 hk with rfl | hk
      · rw [hy]; rfl
      · exact ih2 k hk

theorem dstsMask_bit : ∀ (l : List Oper) (t : Nat), (dstsMask l).testBit t = true ↔ ∃ o ∈ l, o.dst = some t
  | [], t => by simp [dstsMask]
  | o :: l, t => by
    have ih := dstsMask_bit l t
    have hc : dstsMask (o :: l) = (match o.dst with | some d => 2 ^ d | none => 0) ||| dstsMask l := rfl
    rw [hc, Nat.testBit_or, Bool.or_eq_true, ih]
    constructor
    · rintro (h | ⟨o', ho', hd⟩)
      · split at h
        · rename_i d hd
          simp only [Nat.testBit_two_pow, decide_eq_true_eq] at h
          exact ⟨o, List.mem_cons_self, by rw [hd, h]⟩
        · simp at h
      · exact ⟨o', List.mem_cons_of_mem _ ho', hd⟩
    · rintro ⟨o', ho', hd⟩
      rcases List.mem_cons.1 ho' with rfl | ho'
      · left; rw [hd]; simp
      · exact .inr ⟨o', ho', hd⟩

theorem dstsOk_ok : ∀ (l : List Oper), dstsOk l = true → ∀ (i j : Nat) (o o' : Oper) (d : Nat), l[i]? = some o → l[j]? = some o' → o.dst = some d → o'.dst = some d → i = j
  | [], _, i, j, o, o', d, hi, _, _, _ => by simp at hi
  | x :: l, h, i, j, o, o', d, hi, hj, ho, ho' => by
    simp only [dstsOk, Bool.and_eq_true] at h
    have hno : ∀ {k : Nat} {u : Oper}, l[k]? = some u → u.dst = some d → x.dst ≠ some d := fun {k u} hk hu hx => by
      have h1 := h.1
      rw [hx] at h1
      simp only [Bool.not_eq_true'] at h1
      have := (dstsMask_bit l d).2 ⟨u, List.mem_of_getElem? hk, hu⟩
      rw [this] at h1
      simp at h1
    cases i <;> cases j
    · rfl
    · simp only [List.getElem?_cons_zero, Option.some.injEq, List.getElem?_cons_succ] at hi hj
      subst hi
      exact absurd ho (hno hj ho')
    · simp only [List.getElem?_cons_zero, Option.some.injEq, List.getElem?_cons_succ] at hi hj
      subst hj
      exact absurd ho' (hno hi ho)
    · simp only [List.getElem?_cons_succ] at hi hj
      rw [dstsOk_ok l h.2 _ _ o o' d hi hj ho ho']

/-- What is known of each operation of the order. -/
structure Place (ops : List Oper) (seen : Nat → Prop) (i : Nat) : Prop where
  op : ∃ o, ops[i]? = some o ∧ ∀ j ∈ precs o, seen j
  new : ¬ seen i

theorem ancTab_ok : ∀ (order : List Nat) (tab tab' : List (Nat × Nat)), TabOk ops tab → ancTab ops order tab = some tab' → TabOk ops tab' ∧
    ∀ pre i post, order = pre ++ i :: post → Place ops (fun j => j ∈ pre ∨ (tab.lookup j).isSome = true) i
  | [], tab, tab', ht, h => by
    obtain rfl := Option.some.inj h
    exact ⟨ht, fun pre i post h => by simp at h⟩
  | i :: r, tab, tab', ht, h => by
    simp only [ancTab, Option.bind_eq_some_iff] at h
    obtain ⟨o, ho, x, hx, h⟩ := h
    split at h
    · rename_i hnew
      simp only [Option.isNone_iff_eq_none] at hnew
      obtain ⟨hsay, hin⟩ := ancOf_ok ht _ _ hx
      have ht2 : TabOk ops ((i, x) :: tab) := fun j y hj => by
        rw [List.lookup_cons] at hj
        split at hj
        · rename_i hji
          have hji' : j = i := by simpa using hji
          subst hji'
          obtain rfl := Option.some.inj hj
          exact ⟨o, ho, hsay⟩
        · exact ht j y hj
      obtain ⟨ih1, ih2⟩ := ancTab_ok r _ tab' ht2 h
      refine ⟨ih1, fun pre k post hk => ?_⟩
      cases pre with
      | nil =>
        simp only [List.nil_append, List.cons.injEq] at hk
        obtain ⟨rfl, rfl⟩ := hk
        refine ⟨⟨o, ho, fun j hj => .inr (hin j hj)⟩, ?_⟩
        rintro (hh | hh)
        · simp at hh
        · rw [hnew] at hh; simp at hh
      | cons q pre =>
        simp only [List.cons_append, List.cons.injEq] at hk
        obtain ⟨rfl, rfl⟩ := hk
        obtain ⟨⟨o2, h1, h2⟩, h4⟩ := ih2 pre k post rfl
        have hconv : ∀ j, (j ∈ pre ∨ (List.lookup j ((i, x) :: tab)).isSome = true) ↔ (j ∈ i :: pre ∨ (tab.lookup j).isSome = true) := fun j => by
          rw [List.lookup_cons]
          by_cases hj : j = i
          · subst hj; simp
          · have hb : (j == i) = false := by simpa using hj
            rw [hb]
            simp [hj]
        exact ⟨⟨o2, h1, fun j hj => (hconv j).1 (h2 j hj)⟩, fun hh => h4 ((hconv k).2 hh)⟩
    · simp at h

/-- i comes before j, whatever the order. -/
def Bef (ops : List Oper) (i j : Nat) : Prop := ∀ S o, Down ops S → ops[j]? = some o → (∀ k ∈ precs o, S k) → S i

theorem bef_ok {tab : List (Nat × Nat)} (ht : TabOk ops tab) {i j : Nat} (h : bef tab i j = true) : Bef ops i j := by
  unfold bef at h
  split at h
  · rename_i x hx
    obtain ⟨o, ho, hsay⟩ := ht j x hx
    intro S o' hS ho' hp
    obtain rfl : o = o' := by rw [ho] at ho'; exact Option.some.inj ho'
    exact hsay S hS hp i h
  · simp at h

theorem avail_ok {tab : List (Nat × Nat)} (ht : TabOk ops tab) (h : availOk ops tab = true) {i j t : Nat} {oi oj : Oper} (hj : ops[j]? = some oj) (hd : oj.dst = some t) (hi : ops[i]? = some oi) (hr : t ∈ readsOf ops oi) : Bef ops j i ∨ (Bef ops i j ∧ isRead oi.op = false) := by
  simp only [availOk, List.all_eq_true, List.mem_range] at h
  have h1 := h j (List.getElem?_eq_some_iff.1 hj).1
  simp only [hj, Option.bind_some, hd, List.all_eq_true, List.mem_range] at h1
  have h2 := h1 i (List.getElem?_eq_some_iff.1 hi).1
  simp only [hi, Bool.or_eq_true, Bool.and_eq_true, Bool.not_eq_true', List.contains_eq_mem, decide_eq_false_iff_not] at h2
  rcases h2 with (h2 | h2) | h2
  · exact absurd hr h2
  · exact .inl (bef_ok ht h2)
  · exact .inr ⟨bef_ok ht h2.1, h2.2⟩

/-- x, then y; or y only makes a block, and who reads of it comes behind x. -/
def Pair (ops : List Oper) (flo : List Nat) (x y : Nat) : Prop :=
  Bef ops x y ∨ (y ∈ flo ∧ ∃ o t, ops[y]? = some o ∧ isAllocOp o.op = true ∧ o.guard = none ∧ o.dst = some t ∧ ∀ d od, ops[d]? = some od → t ∈ readsOf ops od → Bef ops x d ∨ Bef ops d y)

theorem pair_ok {tab : List (Nat × Nat)} (ht : TabOk ops tab) {flo : List Nat} {x y : Nat} (h : pairOk ops tab flo x y = true) : Pair ops flo x y := by
  simp only [pairOk, Bool.or_eq_true, Bool.and_eq_true] at h
  rcases h with h | ⟨h1, h2⟩
  · exact .inl (bef_ok ht h)
  · refine .inr ⟨by simpa using h1, ?_⟩
    split at h2
    · rename_i o ho
      simp only [Bool.and_eq_true, Option.isNone_iff_eq_none] at h2
      obtain ⟨⟨g1, g2⟩, g3⟩ := h2
      split at g3
      · rename_i t hd
        refine ⟨o, t, ho, g1, g2, hd, fun d od hod hr => ?_⟩
        simp only [List.all_eq_true, List.mem_range] at g3
        have := g3 d (List.getElem?_eq_some_iff.1 hod).1
        simp only [hod, Bool.or_eq_true, Bool.not_eq_true', List.contains_eq_mem, decide_eq_false_iff_not] at this
        rcases this with (k | k) | k
        · exact absurd hr k
        · exact .inl (bef_ok ht k)
        · exact .inr (bef_ok ht k)
      · simp at g3
    · simp at h2

theorem pairs_ok {tab : List (Nat × Nat)} (ht : TabOk ops tab) {flo : List Nat} : ∀ (l : List Nat), pairsOk ops tab flo l = true → l.Pairwise (Pair ops flo)
  | [], _ => .nil
  | x :: r, h => by
    simp only [pairsOk, Bool.and_eq_true, List.all_eq_true] at h
    exact List.pairwise_cons.2 ⟨fun y hy => pair_ok ht (h.1 y hy), pairs_ok ht r h.2⟩

theorem readsOk_ok {tab : List (Nat × Nat)} {louds : List Nat} {chk : List (Nat × List Nat)} : ∀ (order : List Nat) (k : Nat), readsOk P ops tab louds chk order k = true →
    ∀ pre i post o, order = pre ++ i :: post → ops[i]? = some o → isLoud P o.op = false → isRead o.op = true → ∀ p, p ≤ louds.length →
      p = k + (pre.filter (loudAt P ops)).length ∨ p ∈ (chk.lookup i).getD [] ∨ possible tab louds i p = false
  | [], k, _, pre, i, post, o, hord, _, _, _, p, _ => by simp at hord
  | x :: r, k, h, pre, i, post, o, hord, ho, hl, hr, p, hp => by
    simp only [readsOk] at h
    cases pre with
    | nil =>
      simp only [List.nil_append, List.cons.injEq] at hord
      obtain ⟨rfl, rfl⟩ := hord
      rw [ho] at h
      simp only [hl, hr, Bool.not_true, Bool.false_or, Bool.and_eq_true, List.all_eq_true, List.mem_range, Bool.or_eq_true, beq_iff_eq, Bool.not_eq_true'] at h
      have := h.1 p (by omega)
      simp only [List.filter_nil, List.length_nil, Nat.add_zero]
      rcases this with (h1 | h1) | h1
      · exact .inl h1
      · exact .inr (.inl (by simpa using h1))
      · exact .inr (.inr h1)
    | cons q pre =>
      simp only [List.cons_append, List.cons.injEq] at hord
      obtain ⟨rfl, rfl⟩ := hord
      split at h
      · rename_i o2 ho2
        simp only [Bool.and_eq_true] at h
        have hlo : loudAt P ops x = isLoud P o2.op := by unfold loudAt; rw [ho2]
        have := readsOk_ok _ _ h.2 pre i post o rfl ho hl hr p hp
        rw [List.filter_cons, hlo]
        cases hq : isLoud P o2.op
        · simpa [hq] using this
        · rw [hq] at this
          simp only [if_true, List.length_cons] at this ⊢
          rw [show k + ((pre.filter (loudAt P ops)).length + 1) = k + 1 + (pre.filter (loudAt P ops)).length by omega]
          exact this
      · simp at h

end

section
variable {C : Ctx} {B : Nat} {E0 E : Env} {H0 : Heap} {w0 : World} {s s' sf : St} {a : Act} {w : World} {Q : Exit → Act → World → Prop} {ops : List Oper}

theorem runOrd_split {flo : List Nat} : ∀ (pre : List Nat) (i : Nat) (post : List Nat) (s sf : St) (hs : List (Heap × Bool)), runOrd C ops flo (pre ++ i :: post) s = some (sf, hs) →
    ∃ o si hpre si' hpost, ops[i]? = some o ∧ runOrd C ops flo pre s = some (si, hpre) ∧ stepOp C ops si o = some si' ∧ (i ∈ flo → lastBare si'.H = true) ∧ runOrd C ops flo post si' = some (sf, hpost) ∧
      hs = hpre ++ ((if isLoud C.P o.op then [(si'.H, si'.esc)] else []) ++ hpost)
  | [], i, post, s, sf, hs, h => by
    simp only [List.nil_append, runOrd, Option.bind_eq_some_iff] at h
    obtain ⟨o, ho, s', h1, h⟩ := h
    split at h
    · simp at h
    · rename_i hc
      simp only [Option.map_eq_some_iff, Prod.exists, Prod.mk.injEq] at h
      obtain ⟨sf', hpost, h2, rfl, rfl⟩ := h
      exact ⟨o, s, [], s', hpost, ho, rfl, h1, by simpa using hc, h2, by split <;> simp⟩
  | q :: pre, i, post, s, sf, hs, h => by
    simp only [List.cons_append, runOrd, Option.bind_eq_some_iff] at h
    obtain ⟨o, ho, s', h1, h⟩ := h
    split at h
    · simp at h
    · rename_i hc
      simp only [Option.map_eq_some_iff, Prod.exists, Prod.mk.injEq] at h
      obtain ⟨sf', hs', h2, rfl, rfl⟩ := h
      obtain ⟨o2, si, hpre, si', hpost, g1, g2, g3, g3', g4, rfl⟩ := runOrd_split pre i post s' _ hs' h2
      refine ⟨o2, si, if isLoud C.P o.op then (s'.H, s'.esc) :: hpre else hpre, si', hpost, g1, ?_, g3, g3', g4, ?_⟩
      · simp only [runOrd, ho, Option.bind_some, h1]
        rw [if_neg hc]
        simp only [g2, Option.map_some]
      · split <;> simp

theorem runOrd_len {flo : List Nat} : ∀ (pre : List Nat) (s si : St) (hpre : List (Heap × Bool)), runOrd C ops flo pre s = some (si, hpre) →
    hpre.length = (pre.filter (loudAt C.P ops)).length ∧ ((s.H, s.esc) :: hpre)[hpre.length]? = some (si.H, si.esc)
  | [], s, si, hpre, h => by
    simp only [runOrd, Option.some.injEq, Prod.mk.injEq] at h
    obtain ⟨rfl, rfl⟩ := h
    exact ⟨rfl, rfl⟩
  | q :: pre, s, si, hpre, h => by
    simp only [runOrd, Option.bind_eq_some_iff] at h
    obtain ⟨o, ho, s', h1, h⟩ := h
    split at h
    · simp at h
    · simp only [Option.map_eq_some_iff, Prod.exists, Prod.mk.injEq] at h
      obtain ⟨sf', hs', h2, rfl, rfl⟩ := h
      obtain ⟨ih1, ih2⟩ := runOrd_len pre s' sf' hs' h2
      have hlo : loudAt C.P ops q = isLoud C.P o.op := by unfold loudAt; rw [ho]
      rw [List.filter_cons, hlo]
      cases hq : isLoud C.P o.op
      · obtain ⟨k1, k2⟩ := quiet_step h1 hq
        simp only [Bool.false_eq_true, if_false]
        refine ⟨ih1, ?_⟩
        rw [← ih2, k1, k2]
      · simp only [if_true, List.length_cons]
        exact ⟨by rw [ih1], by simpa using ih2⟩

theorem runOrd_get {flo : List Nat} : ∀ (l : List Nat) (s sf : St) (hs : List (Heap × Bool)), runOrd C ops flo l s = some (sf, hs) → ∀ t, (∀ i ∈ l, ∀ o, ops[i]? = some o → o.dst ≠ some t) → sf.get C.A t = s.get C.A t
  | [], s, sf, hs, h, t, ht => by
    simp only [runOrd, Option.some.injEq, Prod.mk.injEq] at h
    rw [h.1]
  | q :: l, s, sf, hs, h, t, ht => by
    simp only [runOrd, Option.bind_eq_some_iff] at h
    obtain ⟨o, ho, s', h1, h⟩ := h
    split at h
    · simp at h
    · simp only [Option.map_eq_some_iff, Prod.exists, Prod.mk.injEq] at h
      obtain ⟨sf', hs', h2, rfl, rfl⟩ := h
      rw [runOrd_get l s' _ hs' h2 t (fun i hi => ht i (List.mem_cons_of_mem _ hi)), stepOp_get h1 (ht q List.mem_cons_self o ho)]

end
end Go.X
/-
  Regions that draw their order: whichever is drawn, the end is the notes' one. The states on the way.
-/
namespace Go.X
open Go.RowKit (Below)

section
variable {C : Ctx} {B : Nat} {E0 E E' : Env} {H0 : Heap} {w0 : World} {s s0 sf : St} {a : Act} {w w' : World} {Q : Exit → Act → World → Prop} {ops : Array Oper}

/-- An operation that makes one block, in whatever memory. -/
theorem zero_notup {P : Program} {t : TypeId} {z : AV} (h : zeroAV P t = some z) : z.isTup = false := by
  obtain ⟨i', z', _, _, hf, _⟩ := zero_spec (E := ⟨fun _ => none, fun _ _ => none, 0, fun _ => none, 0⟩) h
  have := (FR.noMap (g := false) (fl := false) hf) _ rfl
  exact this

theorem plain_notup {v : AV} (h : v.plain = true) : v.isTup = false := by
  cases v <;> first | rfl | (simp [AV.plain] at h)

theorem fill_notup {place : Nat → Option (Nat × Nat)} : ∀ {l : List (Nat × AV)} {acc r : AV}, fillAV place acc l = some r → acc.isTup = false → r.isTup = false
  | [], acc, r, h, ha => by
    obtain rfl := Option.some.inj h
    exact ha
  | (i, v) :: l, acc, r, h, ha => by
    simp only [fillAV, Option.bind_eq_some_iff] at h
    obtain ⟨x, hx, y, hy, h⟩ := h
    split at h
    · rename_i hc
      simp only [Option.bind_eq_some_iff] at h
      obtain ⟨acc', hput, h⟩ := h
      exact fill_notup h (put_notup hput (plain_notup hc.2.2))
    · simp at h

theorem alloc_shape {op : Op} {ty : TypeId} {v : AV} {H' : Heap} {e : Bool} (ha : isAllocOp op = true) (h : evalOp C s op ty = some (v, H', e)) :
    ∃ (mk : Nat → AV) (bk : Blk), (∀ H2, evalOp C { s with H := H2 } op ty = some (mk H2.length, H2 ++ [some bk], false)) ∧
      ((∃ g, mk = fun id => .ptr ⟨id, 0, [], g⟩) ∨ ∃ g sz n, mk = fun id => .sl ⟨id, 0, [], g⟩ sz n 0 n) ∧ bk.root.isTup = false := by
  have hevf : ∀ H2, St.eval C.A { s with H := H2 } = s.eval C.A := fun H2 => funext (fun x => by cases x <;> rfl)
  cases op <;> simp only [isAllocOp, reduceCtorEq] at ha <;> simp only [evalOp, hevf] at h ⊢
  case alloc t =>
    simp only [Option.map_eq_some_iff] at h
    obtain ⟨z, hz, _⟩ := h
    exact ⟨fun id => .ptr ⟨id, 0, [], z.flatLen⟩, ⟨z, false, z.refless⟩, fun H2 => by rw [hz]; rfl, .inl ⟨_, rfl⟩, zero_notup hz⟩
  case box t x =>
    split at h
    · rename_i hp
      exact ⟨fun id => .ptr ⟨id, 0, [], (s.eval C.A x).flatLen⟩, ⟨s.eval C.A x, false, (s.eval C.A x).refless⟩, fun H2 => by rw [if_pos hp]; rfl, .inl ⟨_, rfl⟩, plain_notup hp⟩
    · simp at h
  case buildSlice t len ps =>
    split at h
    · rename_i el hu
      simp only [Option.bind_eq_some_iff] at h
      obtain ⟨sz, hsz, h⟩ := h
      split at h
      · rename_i hc
        simp only [Option.map_eq_some_iff] at h
        obtain ⟨r, hr, _⟩ := h
        have hrt : r.isTup = false := by
          split at hr
          · split at hr
            · obtain rfl := Option.some.inj hr; rfl
            · cases hr
          · simp only [Option.bind_eq_some_iff] at hr
            obtain ⟨z, _, hr⟩ := hr
            split at hr
            · exact fill_notup hr rfl
            · cases hr
        exact ⟨fun id => .sl ⟨id, 0, [], sz * len⟩ sz len 0 len, ⟨r, true, r.refless⟩, fun H2 => by
          rw [hsz]
          simp only [Option.bind_some]
          rw [if_pos hc, hr]
          rfl, .inr ⟨_, _, _, rfl⟩, hrt⟩
      · simp at h
    · simp at h
  case makeSlice t l c =>
    split at h
    · rename_i el hu
      simp only [Option.bind_eq_some_iff] at h
      obtain ⟨sz, hsz, by_, hby, nl, hl, nc, hc, z, hz, h⟩ := h
      split at h
      · rename_i hh
        exact ⟨fun id => .sl ⟨id, 0, [], sz * nl⟩ sz nl 0 nl, ⟨.arr sz (List.replicate nl z), true, true⟩, fun H2 => by
          rw [hsz, hby, hl, hc, hz]
          simp only [Option.bind_some]
          rw [if_pos hh]
          rfl, .inr ⟨_, _, _, rfl⟩, rfl⟩
      · simp at h
    · simp at h

theorem mk_move {mk : Nat → AV} (hm : (∃ g, mk = fun id => .ptr ⟨id, 0, [], g⟩) ∨ ∃ g sz n, mk = fun id => .sl ⟨id, 0, [], g⟩ sz n 0 n) {id : Nat} {L : Loc} {c : Value} (hv : VR E (mk id) c) (hL : E.loc id = some L) {E2 : Env} {T : Nat}
    (h2 : E2.loc T = some L) (hT : T < E2.top) : VR E2 (mk T) c := by
  rcases hm with ⟨g, rfl⟩ | ⟨g, sz, n, rfl⟩
  · obtain ⟨cs, h1, rfl⟩ := (show PR E (.ptr ⟨id, 0, [], g⟩) c from hv)
    refine VR.of_PR (v := .ptr ⟨T, 0, [], g⟩) ?_
    cases h1 with
    | ptr k1 k2 k3 => exact ⟨_, .ptr hT (fun L' hL' => by
        obtain rfl : L = L' := by rw [h2] at hL'; exact Option.some.inj hL'
        exact k2 L hL) .nil, rfl⟩
  · obtain ⟨cs, h1, rfl⟩ := (show PR E (.sl ⟨id, 0, [], g⟩ sz n 0 n) c from hv)
    refine VR.of_PR (v := .sl ⟨T, 0, [], g⟩ sz n 0 n) ?_
    cases h1 with
    | sl k1 k2 k3 k4 k5 => exact ⟨_, .sl hT k2 (fun L' hL' => by
        obtain rfl : L = L' := by rw [h2] at hL'; exact Option.some.inj hL'
        exact k3 L hL) k4 .nil, rfl⟩

def dead (ops : Array Oper) (listed : Array Bool) (t : Nat) : Bool :=
  (List.range ops.size).any fun i => !listed.getD i true && ((ops.toList[i]?).bind (·.dst)) == some t

def pendB (ops : Array Oper) (listed : Array Bool) (L2 : List Nat) (t : Nat) : Bool :=
  L2.any fun y => listed.getD y false && ((ops.toList[y]?).bind (·.dst)) == some t

/-- The state on the way: what is written has its last value, what is not its first one; of what was made early nothing is told. -/
def stAt (pend dead : Nat → Bool) (s0 sf : St) (h : Heap × Bool) : St :=
  { L := (s0.L ++ sf.L).map fun x => (x.1, if pend x.1 then .bad else if dead x.1 then look s0.L x.1 else look sf.L x.1)
    T := sf.T.map fun x => (x.1, if pend x.1 || dead x.1 then .bad else look sf.T x.1)
    H := h.1, esc := h.2 }

theorem look_fun (g : Nat → AV) (t : Nat) : ∀ (l : List (Nat × AV)), look (l.map fun x => (x.1, g x.1)) t = g t ∨ (look (l.map fun x => (x.1, g x.1)) t = .bad ∧ ∀ x ∈ l, x.1 ≠ t)
  | [] => .inr ⟨rfl, by simp⟩
  | (k, v) :: l => by
    simp only [List.map_cons, look]
    split
    · rename_i hk
      subst hk
      exact .inl rfl
    · rename_i hk
      rcases look_fun g t l with h | ⟨h1, h2⟩
      · exact .inl h
      · refine .inr ⟨h1, fun x hx => ?_⟩
        rcases List.mem_cons.1 hx with rfl | hx
        · exact hk
        · exact h2 x hx

theorem look_none {t : Nat} : ∀ {l : List (Nat × AV)}, (∀ x ∈ l, x.1 ≠ t) → look l t = .bad
  | [], _ => rfl
  | (k, v) :: l, h => by
    simp only [look]
    rw [if_neg (h (k, v) List.mem_cons_self)]
    exact look_none (fun x hx => h x (List.mem_cons_of_mem _ hx))

theorem stAt_get (pend dead : Nat → Bool) (h0 : s0.T = []) (h : Heap × Bool) (A : FAnn) (t : Nat) : (stAt pend dead s0 sf h).get A t = if pend t then .bad else if dead t then s0.get A t else sf.get A t := by
  unfold St.get stAt
  split
  · simp only
    rcases look_fun (fun k => if pend k then .bad else if dead k then look s0.L k else look sf.L k) t (s0.L ++ sf.L) with h1 | ⟨h1, h2⟩
    · exact h1
    · rw [h1]
      have e1 : look s0.L t = .bad := look_none (fun x hx => h2 x (List.mem_append.2 (.inl hx)))
      have e2 : look sf.L t = .bad := look_none (fun x hx => h2 x (List.mem_append.2 (.inr hx)))
      rw [e1, e2]
      split <;> simp
  · simp only [h0]
    rcases look_fun (fun k => if pend k || dead k then .bad else look sf.T k) t sf.T with h1 | ⟨h1, h2⟩
    · rw [h1]
      cases pend t <;> cases dead t <;> simp [look]
    · rw [h1]
      have e2 : look sf.T t = .bad := look_none h2
      rw [e2]
      simp [look]

theorem dead_true {listed : Array Bool} {t : Nat} : dead ops listed t = true ↔ ∃ i o, i < ops.size ∧ listed.getD i true = false ∧ ops.toList[i]? = some o ∧ o.dst = some t := by
  unfold dead
  simp only [List.any_eq_true, List.mem_range, Bool.and_eq_true, Bool.not_eq_true', beq_iff_eq, Option.bind_eq_some_iff]
  constructor
  · rintro ⟨i, h1, h2, o, h3, h4⟩
    exact ⟨i, o, h1, h2, h3, h4⟩
  · rintro ⟨i, o, h1, h2, h3, h4⟩
    exact ⟨i, h1, h2, o, h3, h4⟩

theorem dead_false {listed : Array Bool} {t : Nat} (h : ¬ ∃ i o, i < ops.size ∧ listed.getD i true = false ∧ ops.toList[i]? = some o ∧ o.dst = some t) : dead ops listed t = false := by
  cases hd : dead ops listed t
  · rfl
  · exact absurd (dead_true.1 hd) h

theorem pend_true {listed : Array Bool} {L2 : List Nat} {t : Nat} : pendB ops listed L2 t = true ↔ ∃ y o, y ∈ L2 ∧ listed.getD y false = true ∧ ops.toList[y]? = some o ∧ o.dst = some t := by
  unfold pendB
  simp only [List.any_eq_true, Bool.and_eq_true, beq_iff_eq, Option.bind_eq_some_iff]
  constructor
  · rintro ⟨i, h1, h2, o, h3, h4⟩
    exact ⟨i, o, h1, h2, h3, h4⟩
  · rintro ⟨i, o, h1, h2, h3, h4⟩
    exact ⟨i, h1, h2, o, h3, h4⟩

theorem pend_false {listed : Array Bool} {L2 : List Nat} {t : Nat} (h : ¬ ∃ y o, y ∈ L2 ∧ listed.getD y false = true ∧ ops.toList[y]? = some o ∧ o.dst = some t) : pendB ops listed L2 t = false := by
  cases hd : pendB ops listed L2 t
  · rfl
  · exact absurd (pend_true.1 hd) h

theorem not_both {listed : Array Bool} {i : Nat} (h : listed.getD i true = false) : ¬ listed.getD i false = true := by
  intro h2
  rcases Nat.lt_or_ge i listed.size with h' | h'
  · simp [h'] at h h2; rw [h] at h2; simp at h2
  · simp [Array.getElem?_eq_none h'] at h2

theorem either {listed : Array Bool} {i : Nat} (hi : i < listed.size) : listed.getD i true = false ∨ listed.getD i false = true := by
  simp [hi]

/-- All that the notes' check gives. -/
structure Facts (C : Ctx) (ops : Array Oper) (an : RAnn) : Prop where
  uniq : ∀ (i j : Nat) (o o' : Oper) (d : Nat), ops.toList[i]? = some o → ops.toList[j]? = some o' → o.dst = some d → o'.dst = some d → i = j
  all : ∀ i, i < ops.size → i ∈ an.order
  place : ∀ pre i post, an.order = pre ++ i :: post → Place ops.toList (fun j => j ∈ pre) i
  avail : ∀ (i j t : Nat) (oi oj : Oper), ops.toList[j]? = some oj → oj.dst = some t → ops.toList[i]? = some oi → t ∈ readsOf ops.toList oi → Bef ops.toList j i ∨ (Bef ops.toList i j ∧ isRead oi.op = false)
  pairs : (an.order.filter (loudAt C.P ops.toList)).Pairwise (Pair ops.toList an.flo)
  reads : ∃ tab, TabOk ops.toList tab ∧ ∀ pre i post o, an.order = pre ++ i :: post → ops.toList[i]? = some o → isLoud C.P o.op = false → isRead o.op = true → ∀ p, p ≤ (an.order.filter (loudAt C.P ops.toList)).length →
      p = (pre.filter (loudAt C.P ops.toList)).length ∨ p ∈ (an.chk.lookup i).getD [] ∨ possible tab (an.order.filter (loudAt C.P ops.toList)) i p = false

theorem facts {an : RAnn} (h : regionOk C.P ops.toList an = true) : Facts C ops an := by
  unfold regionOk at h
  simp only [Bool.and_eq_true, List.all_eq_true, List.mem_range] at h
  obtain ⟨⟨h1, h2⟩, h3⟩ := h
  split at h3
  · rename_i tab htab
    simp only [Bool.and_eq_true] at h3
    obtain ⟨k1, k2⟩ := ancTab_ok an.order [] tab (fun i x h => by simp at h) htab
    have hpl : ∀ pre i post, an.order = pre ++ i :: post → Place ops.toList (fun j => j ∈ pre) i := fun pre i post h => by
      obtain ⟨⟨o, g1, g2⟩, g4⟩ := k2 pre i post h
      exact ⟨⟨o, g1, fun j hj => (g2 j hj).resolve_right (by simp)⟩, fun hh => g4 (.inl hh)⟩
    refine ⟨dstsOk_ok _ h1, fun i hi => ?_, hpl, fun i j t oi oj hj hd hi hr => avail_ok k1 h3.1.1 hj hd hi hr, pairs_ok k1 _ h3.1.2, tab, k1, fun pre i post o ho hi hl hr p hp => ?_⟩
    · have := h2 i (by simpa using hi)
      simpa using this
    · have := readsOk_ok an.order 0 h3.2 pre i post o ho hi hl hr p hp
      simpa using this
  · simp at h3

/-- A block that was made early. -/
structure Pend (C : Ctx) (B : Nat) (w0 : World) (mk : Nat → AV) (bk : Blk) (E : Env) (w : World) (L : Loc) (d : Nat) (c : Value) : Prop where
  blk : BlkAt E bk L w
  low : B ≤ L.b
  out : ∀ b o, L.has b o → w0.heap.size ≤ b ∧ b < w.heap.size ∧ ¬ InE E b o ∧ E.m b o = none
  val : d < C.N → ∀ (E2 : Env) (T : Nat), E2.loc T = some L → T < E2.top → VR E2 (mk T) c

theorem Pend.later {mk : Nat → AV} {bk : Blk} {L : Loc} {d k : Nat} {c : Value} (h : Pend C B w0 mk bk E w L d c) (hr : bk.root.refs = []) (ht : Tr B k E w E' w') : Pend C B w0 mk bk E' w' L d c := by
  refine ⟨h.blk.later (k := 0) (ht.evol.mono (Nat.zero_le _)) (Nat.zero_le _) (by simp [hr]) (fun j hj => ?_), h.low, fun b o hb => ?_, h.val⟩
  · have := h.out L.b (L.base + j) ⟨rfl, by omega, by omega⟩
    exact ht.frame _ _ this.2.1 this.2.2.1
  · obtain ⟨h1, h2, h3, h4⟩ := h.out b o hb
    refine ⟨h1, Nat.lt_of_lt_of_le h2 ht.below.size, fun hin => h3 (ht.ext b o h2 hin), ?_⟩
    cases hm : E'.m b o with
    | none => rfl
    | some c' =>
      rcases ht.imm b o c' h2 hm with k | k
      · rw [h4] at k; simp at k
      · exact absurd k h3

/-- What the notes' order makes of an operation that may come early. -/
structure Canon (C : Ctx) (ops : Array Oper) (an : RAnn) (s0 : St) (y : Nat) (o : Oper) (d : Nat) (mk : Nat → AV) (bk : Blk) : Prop where
  op : ops.toList[y]? = some o
  guard : o.guard = none
  dst : o.dst = some d
  bare : bk.root.refs = []
  run : ∀ pre post si hs', an.order = pre ++ y :: post → runOrd C ops.toList an.flo pre s0 = some (si, hs') → evalOp C si o.op o.type = some (mk si.H.length, si.H ++ [some bk], false)

structure Core (C : Ctx) (B : Nat) (E0 : Env) (H0 : Heap) (w0 : World) (ops : Array Oper) (an : RAnn) (s0 sf : St) (hv : List (Heap × Bool)) (listed : Array Bool) (L1 L2 : List Nat) (h : Heap × Bool) (pl : Nat → Option Loc) (E : Env) (a : Act) (w : World) : Prop where
  louds : an.order.filter (loudAt C.P ops.toList) = L1 ++ L2
  l1 : ∀ x ∈ L1, listed.getD x false = true
  hv : hv[L1.length]? = some h
  iv : IV C B E0 H0 w0 E (stAt (pendB ops listed L2) (dead ops listed) s0 sf h) a w
  pds : ∀ y ∈ L2, listed.getD y false = true → ∃ o d mk bk L, Canon C ops an s0 y o d mk bk ∧ pl y = some L ∧ Pend C B w0 mk bk E w L d (a.tmps.getD d undef)
  apart : ∀ y y' L L', y ≠ y' → pl y = some L → pl y' = some L' → ∀ b o, L.has b o → ¬ L'.has b o
  mem : ∀ y L, pl y = some L → y ∈ L2 ∧ listed.getD y false = true

structure Inv (C : Ctx) (B : Nat) (E0 : Env) (H0 : Heap) (w0 : World) (ops : Array Oper) (an : RAnn) (s0 sf : St) (hv : List (Heap × Bool)) (listed : Array Bool) (E : Env) (a : Act) (w : World) : Prop where
  size : listed.size = ops.size
  down : Down ops.toList (fun i => listed.getD i false = true)
  mid : ∃ L1 L2 h pl, Core C B E0 H0 w0 ops an s0 sf hv listed L1 L2 h pl E a w ∧ ∀ x r, L2 = x :: r → listed.getD x true = false

theorem filter_at {α : Type} {f : α → Bool} : ∀ {l L1 L2 : List α} {x : α}, l.filter f = L1 ++ x :: L2 → ∃ pre post, l = pre ++ x :: post ∧ pre.filter f = L1 ∧ post.filter f = L2 ∧ f x = true
  | [], L1, L2, x, h => by simp at h
  | y :: l, L1, L2, x, h => by
    rw [List.filter_cons] at h
    split at h
    · rename_i hy
      cases L1 with
      | nil =>
        simp only [List.nil_append, List.cons.injEq] at h
        obtain ⟨rfl, rfl⟩ := h
        exact ⟨[], l, rfl, rfl, rfl, hy⟩
      | cons z L1 =>
        simp only [List.cons_append, List.cons.injEq] at h
        obtain ⟨rfl, h⟩ := h
        obtain ⟨pre, post, rfl, h1, h2, h3⟩ := filter_at h
        exact ⟨y :: pre, post, rfl, by rw [List.filter_cons, if_pos hy, h1], h2, h3⟩
    · rename_i hy
      obtain ⟨pre, post, rfl, h1, h2, h3⟩ := filter_at h
      exact ⟨y :: pre, post, rfl, by rw [List.filter_cons, if_neg hy, h1], h2, h3⟩

theorem split_eq {x : Nat} : ∀ {p1 p2 q1 q2 : List Nat}, x ∉ p1 → x ∉ p2 → p1 ++ x :: q1 = p2 ++ x :: q2 → p1 = p2 ∧ q1 = q2
  | [], [], q1, q2, _, _, h => by simpa using h
  | [], y :: p2, q1, q2, _, h2, h => by
    simp only [List.nil_append, List.cons_append, List.cons.injEq] at h
    exact absurd h.1 (fun e => h2 (by rw [e]; exact List.mem_cons_self))
  | y :: p1, [], q1, q2, h1, _, h => by
    simp only [List.nil_append, List.cons_append, List.cons.injEq] at h
    exact absurd h.1.symm (fun e => h1 (by rw [e]; exact List.mem_cons_self))
  | y :: p1, z :: p2, q1, q2, h1, h2, h => by
    simp only [List.cons_append, List.cons.injEq] at h
    obtain ⟨h3, h4⟩ := split_eq (fun hh => h1 (List.mem_cons_of_mem _ hh)) (fun hh => h2 (List.mem_cons_of_mem _ hh)) h.2
    exact ⟨by rw [h.1, h3], h4⟩

theorem Facts.once {an : RAnn} (F : Facts C ops an) {pre post : List Nat} {i : Nat} (h : an.order = pre ++ i :: post) : i ∉ pre ∧ i ∉ post := by
  refine ⟨(F.place pre i post h).new, fun hj => ?_⟩
  obtain ⟨q1, q2, rfl⟩ := List.append_of_mem hj
  exact (F.place (pre ++ i :: q1) i q2 (by rw [h]; simp)).new (by simp)

theorem Facts.loudOnce {an : RAnn} (F : Facts C ops an) {L1 L2 : List Nat} {x : Nat} (h : an.order.filter (loudAt C.P ops.toList) = L1 ++ x :: L2) : x ∉ L1 ∧ x ∉ L2 := by
  obtain ⟨pre, post, hord, h1, h2, _⟩ := filter_at h
  obtain ⟨k1, k2⟩ := F.once hord
  exact ⟨fun hh => k1 (by rw [← h1] at hh; exact (List.mem_filter.1 hh).1), fun hh => k2 (by rw [← h2] at hh; exact (List.mem_filter.1 hh).1)⟩

theorem Facts.loudLt {an : RAnn} {x : Nat} (hx : x ∈ an.order.filter (loudAt C.P ops.toList)) : ∃ o, ops.toList[x]? = some o ∧ x < ops.size := by
  have := (List.mem_filter.1 hx).2
  unfold loudAt at this
  split at this
  · rename_i o ho
    refine ⟨o, ho, ?_⟩
    have := (List.getElem?_eq_some_iff.1 ho).1
    simpa using this
  · simp at this

end
end Go.X
/-
  Regions that draw their order: one operation.
-/
namespace Go.X
open Go.RowKit (Below)

section
variable {C : Ctx} {B : Nat} {E0 E E' : Env} {H0 : Heap} {w0 : World} {s s0 sf : St} {a : Act} {w w' : World} {Q : Exit → Act → World → Prop} {ops : Array Oper}

theorem IV.to {v : AV} {c : Value} {H' : Heap} {e : Bool} (h : IV C B E0 H0 w0 E s a w) (hr : Res B C.n0 E s.H w v H' e E' w' c) {dst : Option Nat} {s2 : St} (hH : s2.H = H') (he : s2.esc = (s.esc || e))
    (hget : ∀ t, dst ≠ some t → s2.get C.A t = .bad ∨ s2.get C.A t = s.get C.A t) (hd : ∀ d, dst = some d → s2.get C.A d = .bad ∨ (s2.get C.A d = v ∧ (d < C.N ∨ c = undef))) : IV C B E0 H0 w0 E' s2 (a.put dst c) w' := by
  have h1 := h.sr.later hr
  refine ⟨⟨by rw [hH]; exact hr.sim, fun t => ?_, ?_, by rw [hH]; exact Nat.le_trans h.sr.len hr.len⟩, h.tr.trans (hr.tr.mono h.sr.len), h.marks.later h.sr.sim hr.tr (put_defers _ _ _), fun hesc => ?_⟩
  · by_cases ht : dst = some t
    · subst ht
      rcases hd t rfl with h2 | ⟨h2, h3⟩
      · rw [h2]; trivial
      · rw [h2]
        have : (a.put (some t) c).tmps.getD t undef = c := by
          have := h.sr.size
          simp only [Act.put]
          rcases h3 with h3 | rfl
          · simp [show t < a.tmps.size by omega]
          · by_cases hlt : t < a.tmps.size
            · simp [hlt]
            · simp [hlt]
        rw [this]
        exact hr.val
    · have hput : (a.put dst c).tmps.getD t undef = a.tmps.getD t undef := by
        cases dst with
        | none => rfl
        | some d =>
          have hdt : d ≠ t := fun e => ht (by rw [e])
          simp [Act.put, Array.getElem?_setIfInBounds_ne hdt]
      rw [hput]
      rcases hget t ht with h2 | h2
      · rw [h2]; trivial
      · rw [h2]; exact h1.vals t
  · cases dst <;> simp [Act.put, h.sr.size]
  · rw [he, Bool.or_eq_false_iff] at hesc
    rw [hH]
    exact (h.sub hesc.1).trans (hr.sub hesc.2)

theorem put_get {t : Nat} {dst : Option Nat} {c : Value} (h : dst ≠ some t) : (a.put dst c).tmps.getD t undef = a.tmps.getD t undef := by
  cases dst with
  | none => rfl
  | some d =>
    have hdt : d ≠ t := fun e => h (by rw [e])
    simp [Act.put, Array.getElem?_setIfInBounds_ne hdt]

/-- A block that was made early is taken up. -/
theorem Core.take {an : RAnn} (F : Facts C ops an) (hT : s0.T = []) {hs : List (Heap × Bool)} (hrun : runOrd C ops.toList an.flo an.order s0 = some (sf, hs)) {listed : Array Bool} {L1 r : List Nat} {y : Nat} {h : Heap × Bool} {pl : Nat → Option Loc}
    (K : Core C B E0 H0 w0 ops an s0 sf ((s0.H, s0.esc) :: hs) listed L1 (y :: r) h pl E a w) (hy : listed.getD y false = true) :
    ∃ h' E', Core C B E0 H0 w0 ops an s0 sf ((s0.H, s0.esc) :: hs) listed (L1 ++ [y]) r h' (fun z => if z = y then none else pl z) E' a w := by
  obtain ⟨hL, hL1, hh, hIV, hpds, hap, hmem⟩ := K
  obtain ⟨o, d, mk, bk, L, hc, hpl, hP⟩ := hpds y List.mem_cons_self hy
  obtain ⟨hn1, hn2⟩ := F.loudOnce hL
  obtain ⟨pre, post, hord, f1, f2, f3⟩ := filter_at hL
  obtain ⟨o2, si, hspre, si', hspost, g1, g2, g3, g3', g4, hhs⟩ := runOrd_split pre y post s0 sf hs (hord ▸ hrun)
  obtain rfl : o = o2 := by rw [hc.op] at g1; exact Option.some.inj g1
  obtain ⟨glen, glast⟩ := runOrd_len pre s0 si hspre g2
  have hlen : L1.length = hspre.length := by rw [glen, f1]
  have hhe : h = (si.H, si.esc) := by
    have : ((s0.H, s0.esc) :: hs)[hspre.length]? = some (si.H, si.esc) := by
      rw [hhs, ← List.cons_append, List.getElem?_append_left (by simp)]
      exact glast
    rw [← hlen, hh] at this
    exact Option.some.inj this
  subst hhe
  have hloud : isLoud C.P o.op = true := by
    unfold loudAt at f3
    rw [hc.op] at f3
    exact f3
  have hnext : ((s0.H, s0.esc) :: hs)[(L1 ++ [y]).length]? = some (si'.H, si'.esc) := by
    rw [hhs, hloud]
    simp [hlen]
  have hev := hc.run pre post si hspre hord g2
  obtain ⟨b, hb, hres⟩ := stepOp_res g3
  have hbt : b = true := by
    unfold wantedAV at hb
    rw [hc.guard] at hb
    exact (Option.some.inj hb).symm
  subst hbt
  have hsi' : si' = si.res C o.dst (mk si.H.length) (si.H ++ [some bk]) false := by
    rcases hres with ⟨_, v, H', e, he, h1⟩ | ⟨hf, _⟩
    · rw [hev] at he
      simp only [Option.some.injEq, Prod.mk.injEq] at he
      obtain ⟨rfl, rfl, rfl⟩ := he
      exact h1
    · simp at hf
  have hH' : si'.H = si.H ++ [some bk] := by rw [hsi', St.res_H]
  have he' : si'.esc = si.esc := by rw [hsi', St.res_esc]; simp
  have hs : Sim B E si.H w := hIV.sr.sim
  have hsim : Sim B (E.new L) (si.H ++ [some bk]) w := by
    obtain ⟨⟨cs, k1, k2, k3⟩, k4, k5⟩ := hP.blk
    exact hs.adopt k1 k2 k4 (fun _ => hc.bare) hP.low k3 k5 (fun b o hb => ⟨(hP.out b o hb).2.2.1, (hP.out b o hb).2.2.2⟩)
  have hevol : Evol E.top E (E.new L) := Env.new_evol L
  have htop : (E.new L).top = E.top + 1 := rfl
  have hloc : ∀ i, (E.new L).loc i = if i = E.top then some L else E.loc i := fun i => rfl
  have hpend : ∀ t, t ≠ d → pendB ops listed r t = pendB ops listed (y :: r) t := fun t ht => by
    unfold pendB
    rw [List.any_cons, hc.op]
    have : (Option.bind (some o) (fun x => x.dst) == some t) = false := by
      simp only [Option.bind_some, hc.dst, beq_eq_false_iff_ne, ne_eq, Option.some.injEq]
      exact fun e => ht e.symm
    rw [this]
    simp
  refine ⟨(si'.H, si'.esc), E.new L, by rw [hL]; simp, fun x hx => ?_, hnext, ⟨⟨?_, fun t => ?_, hIV.sr.size, ?_⟩, ?_, hIV.marks, fun hesc => ?_⟩, fun z hz hzl => ?_, fun z z' Lz Lz' hzz hz hz' => ?_, fun z Lz hz => ?_⟩
  · rcases List.mem_append.1 hx with hx | hx
    · exact hL1 x hx
    · rw [List.mem_singleton.1 hx]; exact hy
  · show Sim B (E.new L) si'.H w
    rw [hH']; exact hsim
  · rw [stAt_get _ _ hT]
    have hold := hIV.sr.vals t
    rw [stAt_get _ _ hT] at hold
    by_cases htd : t = d
    · subst htd
      have h1 : pendB ops listed r t = false := pend_false (by
        rintro ⟨z, oz, hz, _, hoz, hdz⟩
        rw [F.uniq _ _ _ _ _ hoz hc.op hdz hc.dst] at hz
        exact hn2 hz)
      have h2 : dead ops listed t = false := dead_false (by
        rintro ⟨z, oz, _, hz, hoz, hdz⟩
        rw [F.uniq _ _ _ _ _ hoz hc.op hdz hc.dst] at hz
        exact not_both hz hy)
      rw [h1, h2]
      simp only [Bool.false_eq_true, if_false]
      have hf : sf.get C.A t = si'.get C.A t := runOrd_get post si' sf hspost g4 t (fun m hm om hom hmd => (F.once hord).2 (by rw [F.uniq _ _ _ _ _ hc.op hom hc.dst hmd]; exact hm))
      rw [hf, hsi']
      unfold St.res
      rw [hc.dst]
      simp only
      by_cases hdN : t < C.N
      · rw [if_pos hdN]
        rcases set_get_self (A := C.A) (s := { si with H := si.H ++ [some bk], esc := si.esc || false }) (d := t) (v := mk si.H.length) with h3 | h3
        · rw [h3]
          have hst : E.top = si.H.length := hs.top
          rw [← hst]
          exact hP.val hdN _ _ (by rw [hloc, if_pos rfl]) (by rw [htop]; omega)
        · rw [h3]; trivial
      · rw [if_neg hdN]
        rcases set_get_self (A := C.A) (s := { si with H := si.H ++ [some bk], esc := si.esc || false }) (d := t) (v := AV.bad) with h3 | h3 <;> (rw [h3]; trivial)
    · rw [hpend t htd]
      exact hold.later hevol (by omega)
  · show C.n0 ≤ si'.H.length
    rw [hH', List.length_append]
    have : C.n0 ≤ si.H.length := hIV.sr.len
    omega
  · refine ⟨hIV.tr.below, hIV.tr.evol.trans (hevol.mono (by rw [hs.top]; exact hIV.sr.len)), hIV.tr.frame, fun b o hb hin => ?_, fun b o c hb hm => hIV.tr.imm b o c hb hm, hIV.tr.objs, hIV.tr.extM⟩
    obtain ⟨i, Li, hi, hh⟩ := hin
    rw [hloc] at hi
    split at hi
    · obtain rfl := Option.some.inj hi
      have := (hP.out b o hh).1
      omega
    · exact hIV.tr.ext b o hb ⟨i, Li, hi, hh⟩
  · have h1 : si.esc = false := by rw [← he']; exact hesc
    show Sub C.n0 H0 si'.H
    rw [hH']
    exact (hIV.sub h1).trans (Sub.append hIV.sr.len)
  · have hzy : z ≠ y := fun e => hn2 (by rw [← e]; exact hz)
    obtain ⟨oz, dz, mkz, bkz, Lz, hcz, hplz, hPz⟩ := hpds z (List.mem_cons_of_mem _ hz) hzl
    refine ⟨oz, dz, mkz, bkz, Lz, hcz, by rw [if_neg hzy]; exact hplz, hPz.blk.later (k := 0) (hevol.mono (Nat.zero_le _)) (Nat.zero_le _) (by simp [hcz.bare]) (fun _ _ => ⟨rfl, rfl⟩), hPz.low, fun b o hb => ?_, hPz.val⟩
    obtain ⟨q1, q2, q3, q4⟩ := hPz.out b o hb
    refine ⟨q1, q2, ?_, q4⟩
    rintro ⟨i, Li, hi, hh⟩
    rw [hloc] at hi
    split at hi
    · obtain rfl := Option.some.inj hi
      exact hap z y Lz L hzy hplz hpl b o hb hh
    · exact q3 ⟨i, Li, hi, hh⟩
  · replace hz : (if z = y then none else pl z) = some Lz := hz
    replace hz' : (if z' = y then none else pl z') = some Lz' := hz'
    split at hz
    · simp at hz
    · split at hz'
      · simp at hz'
      · exact hap z z' Lz Lz' hzz hz hz'
  · replace hz : (if z = y then none else pl z) = some Lz := hz
    split at hz
    · simp at hz
    · rename_i hzy
      obtain ⟨k1, k2⟩ := hmem z Lz hz
      exact ⟨(List.mem_cons.1 k1).resolve_left hzy, k2⟩

theorem Core.settle {an : RAnn} (F : Facts C ops an) (hT : s0.T = []) {hs : List (Heap × Bool)} (hrun : runOrd C ops.toList an.flo an.order s0 = some (sf, hs)) {listed : Array Bool} (hsize : listed.size = ops.size) :
    ∀ (L2 L1 : List Nat) (h : Heap × Bool) (pl : Nat → Option Loc) (E : Env), Core C B E0 H0 w0 ops an s0 sf ((s0.H, s0.esc) :: hs) listed L1 L2 h pl E a w →
    ∃ E' L1' L2' h' pl', Core C B E0 H0 w0 ops an s0 sf ((s0.H, s0.esc) :: hs) listed L1' L2' h' pl' E' a w ∧ ∀ x r, L2' = x :: r → listed.getD x true = false
  | [], L1, h, pl, E, K => ⟨E, L1, [], h, pl, K, fun x r hx => by simp at hx⟩
  | y :: r, L1, h, pl, E, K => by
    obtain ⟨o, _, hlt⟩ := Facts.loudLt (C := C) (ops := ops) (an := an) (x := y) (by rw [K.louds]; simp)
    rcases either (listed := listed) (i := y) (by rw [hsize]; exact hlt) with hy | hy
    · exact ⟨E, L1, y :: r, h, pl, K, fun x q hx => by
        simp only [List.cons.injEq] at hx
        rw [← hx.1]; exact hy⟩
    · obtain ⟨h', E', K'⟩ := K.take F hT hrun hy
      exact Core.settle F hT hrun hsize r _ _ _ _ K'

end
end Go.X
