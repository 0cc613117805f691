/-
  Each operation: what the evaluator tells is what the model does.
-/
import Derived.Test.YtiiddampachhlaaX18
namespace Go.X
open Go.RowKit (Below)

section
variable {C : Ctx} {B : Nat} {E : Env} {s : St} {a : Act} {w : World}

def isScal : Value → Bool
  | .int .. | .float .. | .complex .. | .string _ | .bool _ => true
  | _ => false

theorem not_scal {E : Env} {v : AV} {c : Value} (h : PR E v c) (hs : v.scalar = none) : isScal c = false := by
  obtain ⟨cs, h1, rfl⟩ := h
  cases h1 <;> first | rfl | simp [AV.scalar] at hs

theorem binOp_eq {P : Program} {w : World} {t : TypeId} {cx cy : Value} (hx : isScal cx = false) (hy : isScal cy = false) {r : Bool} (h : (Op.equal t cx cy).run P w = .ok r w) :
    (binOp .eql t cx cy).run P w = .ok (.bool r) w ∧ (binOp .neq t cx cy).run P w = .ok (.bool !r) w := by
  cases cx <;> simp only [isScal, reduceCtorEq] at hx <;> cases cy <;> simp only [isScal, reduceCtorEq] at hy <;> simp [binOp, h]

theorem nili_of {E : Env} {x : AV} (h : PR E x .nilIface) : x = .nili := by
  obtain ⟨cs, h1, h2⟩ := h
  cases h1 <;> simp [pack, AV.isAgg] at h2 ⊢

theorem agg_of {E : Env} {x : AV} {c : Value} (h : PR E x c) (hc : isAggV c = true) : x.isAgg = true := by
  obtain ⟨cs, h1, rfl⟩ := h
  cases h1 <;> first | rfl | simp [pack, AV.isAgg, isAggV] at hc

theorem guard_run {P : Program} {w : World} {op : BinOp} {t : TypeId} {ox oy : Operand} {cx cy : Value} (hn : ¬ (cx = .nilIface ∧ cy = .nilIface)) (ha : isAggV cx = true → P.eqGuardType P.depth t = false) :
    (eqGuard op t ox oy cx cy).run P w = .ok () w := by
  cases cx
  case nilIface =>
    cases cy
    case nilIface => exact absurd ⟨rfl, rfl⟩ hn
    all_goals (unfold eqGuard; cases op <;> rfl)
  case agg cs =>
    have ha' := ha rfl
    cases cy
    case agg ds => unfold eqGuard; cases op <;> first | rfl | simp [ha']
    all_goals (unfold eqGuard; cases op <;> rfl)
  all_goals (unfold eqGuard; cases op <;> rfl)

theorem equalIn_nil {P : Program} {w : World} {t : TypeId} {ms : Array (String × TypeId)} (hu : P.underlying t = some (.interface ms)) (d : Nat) : (Op.equalIn (d + 1) t .nilIface .nilIface).run P w = .ok true w := by
  simp [Op.equalIn, run_underlying hu]

/-- '==' and '!=' where not both are numbers, texts or bools. -/
theorem eq_ok {P : Program} {E : Env} {w : World} {t : TypeId} {x y : AV} {cx cy : Value} {r : Bool} {ox oy : Operand} (hx : VR E x cx) (hy : VR E y cy) (sx : x.scalar = none) (sy : y.scalar = none)
    (hg : (x.isAgg && P.eqGuardType P.depth t) = false) (h : eqNil P t ox oy x y = some r) :
    (do eqGuard .eql t ox oy cx cy; binOp .eql t cx cy).run P w = .ok (.bool r) w ∧ (do eqGuard .neq t ox oy cx cy; binOp .neq t cx cy).run P w = .ok (.bool !r) w := by
  unfold eqNil at h
  split at h
  · split at h
    · rename_i hc
      obtain rfl := Option.some.inj h
      obtain rfl := PR.nili_inv (show PR E .nili cx from hx)
      obtain rfl := PR.nili_inv (show PR E .nili cy from hy)
      simp only [Bool.and_eq_true] at hc
      obtain ⟨hc, hu⟩ := hc
      unfold tiface at hu
      split at hu
      · rename_i ms hu'
        have he : (Op.equal t .nilIface .nilIface).run P w = .ok true w := by
          exact equalIn_nil hu' 9999
        have hb := binOp_eq (P := P) (w := w) (t := t) (cx := .nilIface) (cy := .nilIface) rfl rfl he
        have hgd : ∀ op, (eqGuard op t ox oy .nilIface .nilIface).run P w = .ok () w := fun op => by
          unfold eqGuard
          cases ox <;> cases oy <;> simp [isConstO] at hc <;> simp
        simp [hgd, hb.1, hb.2]
      · simp at hu
    · simp at h
  · rename_i hnn
    have hpx : x.plain = true := by cases x <;> first | rfl | (cases d : P.underlying t <;> simp [eqAV, d] at h)
    have hpy : y.plain = true := by cases y <;> first | rfl | (cases x <;> cases d : P.underlying t <;> simp [eqAV, d] at h)
    have h1 := hx.toPR hpx
    have h2 := hy.toPR hpy
    have he := eqAV_ok (P := P) (w := w) 30 9970 t x y cx cy r h1 h2 h
    have hb := binOp_eq (P := P) (w := w) (t := t) (not_scal h1 sx) (not_scal h2 sy) (show (Op.equal t cx cy).run P w = .ok r w from he)
    have hgd : ∀ op, (eqGuard op t ox oy cx cy).run P w = .ok () w := fun op => by
      refine guard_run (fun hh => ?_) (fun hh => ?_)
      · obtain ⟨rfl, rfl⟩ := hh
        exact hnn (nili_of h1) (nili_of h2)
      · simpa [agg_of h1 hh] using hg
    simp [hgd, hb.1, hb.2]

theorem len_ok {E : Env} {x : AV} {cx : Value} {n : Nat} (hx : VR E x cx) (h : x.len = some n) (hns : ∀ s, x ≠ .str s) : ∃ base cap, cx = .slice base n cap := by
  cases x <;> simp only [AV.len, Option.some.injEq, reduceCtorEq] at h
  · exact absurd rfl (hns _)
  · subst h
    have k := (show PR E .nils cx from hx).leaf rfl
    cases k
    exact ⟨_, _, rfl⟩
  · subst h
    obtain ⟨a, cap, rfl, _⟩ := PR.sl_inv (show PR E (.sl _ _ _ _ _) cx from hx)
    exact ⟨_, _, rfl⟩
  · subst h
    obtain ⟨b, o, sp, c1, cap, rfl, _⟩ := PR.isl_inv (show PR E (.isl _ _) cx from hx)
    exact ⟨_, _, rfl⟩

theorem scalars_ok {E : Env} : ∀ {xs : List AV} {cs ds : List Value}, (xs.length = cs.length) → (∀ (i : Nat) (v : AV) (c : Value), xs[i]? = some v → cs[i]? = some c → VR E v c) → xs.mapM AV.scalar = some ds → cs = ds
  | [], cs, ds, hl, _, h => by
    simp at h
    subst h
    exact List.eq_nil_of_length_eq_zero hl.symm
  | x :: xs, cs, ds, hl, hv, h => by
    cases cs with
    | nil => simp at hl
    | cons c cs =>
      simp only [List.mapM_cons, Option.bind_eq_bind, Option.pure_def, Option.bind_eq_some_iff] at h
      obtain ⟨d, hd, ds', hds, h⟩ := h
      obtain rfl := Option.some.inj h
      have e1 := scalar_ok (hv 0 x c rfl rfl) hd
      have e2 := scalars_ok (cs := cs) (ds := ds') (by simpa using hl) (fun i v c h1 h2 => hv (i + 1) v c (by simpa using h1) (by simpa using h2)) hds
      rw [e1, e2]

theorem builtin_ok (hR : SR C B E s a w) {o : Oper} {c : Call} {b : Builtin} {v : AV} {H' : Heap} {e : Bool} (ho : o.op = .call c) (hb : c.callee = .builtin b) (h : evalBuiltin C b c.argTypes (c.args.toList.map (s.eval C.A)) s = some (v, H', e))
    {next : Act → World → Prop} {Q : Exit → Act → World → Prop} (hn : ∀ E' w' c, Res B C.n0 E s.H w v H' e E' w' c → next (a.put o.dst c) w') : o.wp C.P a w next Q := by
  have hs := hR.sim
  have hargs := args_ok hR c.args.toList
  have hcl : (c.args.map a.eval).toList = c.args.toList.map a.eval := by simp
  have hlen : (c.args.toList.map (s.eval C.A)).length = (c.args.toList.map a.eval).length := by simp
  generalize c.args.toList.map (s.eval C.A) = avs at h hargs hlen
  generalize hcvs : c.args.toList.map a.eval = cvs at hargs hlen hcl
  have hcm : c.args.map a.eval = cvs.toArray := by rw [← hcl]
  have run : ∀ {e' : Sem Value}, (∀ consts, builtin b c.argTypes o.type consts cvs.toArray = (do pure (Next.value (← e')))) → (execOp a.eval o).run C.P w = ((do pure (Next.value (← e'))) : Sem Next).run C.P w := fun {e'} hh => by
    unfold execOp
    simp only [ho, resolve, hb]
    simp [invoke, hcm, hh]
  have pure_ : ∀ {r : Option AV} {e' : Sem Value}, (∀ consts, builtin b c.argTypes o.type consts cvs.toArray = (do pure (Next.value (← e')))) → (r.map fun v => (v, s.H, false)) = some (v, H', e) → (∀ u, r = some u → ∃ c, e'.run C.P w = .ok c w ∧ VR E u c) →
      o.wp C.P a w next Q := fun {r e'} he hq hc => by
    obtain ⟨h1, rfl, rfl⟩ := q_inv hq
    obtain ⟨c, h2, h3⟩ := hc _ h1
    exact value_wp (by rw [run he]; exact value_run h2) (hn E w c (Res.same hs h3))
  have two : ∀ {x y : AV}, avs = [x, y] → ∃ cx cy, cvs = [cx, cy] ∧ VR E x cx ∧ VR E y cy := fun {x y} hx => by
    subst hx
    match cvs, hlen with
    | [cx, cy], _ => exact ⟨cx, cy, rfl, hargs 0 x cx rfl rfl, hargs 1 y cy rfl rfl⟩
  have one : ∀ {x : AV}, avs = [x] → ∃ cx, cvs = [cx] ∧ VR E x cx := fun {x} hx => by
    subst hx
    match cvs, hlen with
    | [cx], _ => exact ⟨cx, rfl, hargs 0 x cx rfl rfl⟩
  unfold evalBuiltin at h
  split at h
  · -- len
    rename_i x
    obtain ⟨cx, rfl, hx⟩ := one rfl
    simp only [Option.bind_eq_some_iff] at h
    obtain ⟨t, ht, h⟩ := h
    split at h
    · rename_i n el hu
      exact pure_ (e' := Builtin.len_ c.argTypes o.type #[cx]) (fun _ => rfl) h (fun u hu' => by
        obtain rfl := Option.some.inj hu'
        exact ⟨_, by simp [Builtin.len_, ht, run_underlying hu, goInt], VR.int⟩)
    · rename_i ar hu
      split at h
      · rename_i n el hu2
        exact pure_ (e' := Builtin.len_ c.argTypes o.type #[cx]) (fun _ => rfl) h (fun u hu' => by
          obtain rfl := Option.some.inj hu'
          exact ⟨_, by simp [Builtin.len_, ht, run_underlying hu, run_underlying hu2, goInt], VR.int⟩)
      · simp at h
    · rename_i hu
      split at h
      · rename_i str
        obtain rfl := hx.str_inv
        exact pure_ (e' := Builtin.len_ c.argTypes o.type #[.string str]) (fun _ => rfl) h (fun u hu' => by
          obtain rfl := Option.some.inj hu'
          exact ⟨_, by simp [Builtin.len_, ht, run_underlying hu, goInt], VR.int⟩)
      · simp at h
    · rename_i el hu
      split at h
      · simp at h
      · rename_i hns
        exact pure_ (e' := Builtin.len_ c.argTypes o.type #[cx]) (fun _ => rfl) h (fun u hu' => by
          simp only [Option.map_eq_some_iff] at hu'
          obtain ⟨n, hn', rfl⟩ := hu'
          obtain ⟨base, cap, rfl⟩ := len_ok hx hn' hns
          exact ⟨_, by simp [Builtin.len_, ht, run_underlying hu, goInt], VR.int⟩)
    · simp at h
  · -- min
    rename_i x xs
    match cvs, hlen with
    | cx :: cs, hlen =>
      exact pure_ (e' := Builtin.min_ c.argTypes o.type (cx :: cs).toArray) (fun _ => rfl) h (fun u hu' => by
        simp only [Option.bind_eq_some_iff] at hu'
        obtain ⟨d, hd, ds, hds, hu'⟩ := hu'
        have e1 := scalar_ok (hargs 0 x cx rfl rfl) hd
        have e2 := scalars_ok (by simpa using hlen) (fun i v c h1 h2 => hargs (i + 1) v c (by simpa using h1) (by simpa using h2)) hds
        subst e1 e2
        obtain ⟨r, h1, h2⟩ := liftPure_ok (E := E) (P := C.P) hu' w
        exact ⟨r, by simpa [Builtin.min_] using h1, h2⟩)
  · -- max
    rename_i x xs
    match cvs, hlen with
    | cx :: cs, hlen =>
      exact pure_ (e' := Builtin.max_ c.argTypes o.type (cx :: cs).toArray) (fun _ => rfl) h (fun u hu' => by
        simp only [Option.bind_eq_some_iff] at hu'
        obtain ⟨d, hd, ds, hds, hu'⟩ := hu'
        have e1 := scalar_ok (hargs 0 x cx rfl rfl) hd
        have e2 := scalars_ok (by simpa using hlen) (fun i v c h1 h2 => hargs (i + 1) v c (by simpa using h1) (by simpa using h2)) hds
        subst e1 e2
        obtain ⟨r, h1, h2⟩ := liftPure_ok (E := E) (P := C.P) hu' w
        exact ⟨r, by simpa [Builtin.max_] using h1, h2⟩)
  · -- append
    rename_i x y
    obtain ⟨cx, cy, rfl, hx, hy⟩ := two rfl
    simp only [Option.bind_eq_some_iff] at h
    obtain ⟨t, ht, u, hu, h⟩ := h
    split at h
    · rename_i el d htu hud
      split at h
      · simp at h
      · rename_i hk
        simp only [Option.bind_eq_some_iff, Option.map_eq_some_iff, Prod.exists, Prod.mk.injEq] at h
        obtain ⟨sz, hsz, xs, hxs, ys, H1, hfz, v', H2, happ, rfl, rfl, rfl⟩ := h
        obtain ⟨cells, hsrc⟩ := srcAV_ok (P := C.P) hs hy hxs
        have hfrz : ∃ E1, Frz B C.n0 E s.H w E1 H1 ∧ Src C.P E1 w sz ys cy cells := by
          split at hfz
          · obtain ⟨E1, g1, g2, g3⟩ := freezeL_ok xs E s.H ys H1 cells hs hsrc.fr hfz
            refine ⟨E1, g1, g2, fun u hu => ?_, ?_, ?_⟩
            · have : u.flatLen ∈ ys.map AV.flatLen := List.mem_map_of_mem hu
              rw [g3] at this
              obtain ⟨z, hz, hzu⟩ := List.mem_map.1 this
              rw [← hzu]
              exact hsrc.each z hz
            · have hl : ys.length = xs.length := by rw [← List.length_map (f := AV.flatLen), g3, List.length_map]
              rw [hl]; exact hsrc.len
            · have hl : ys.length = xs.length := by rw [← List.length_map (f := AV.flatLen), g3, List.length_map]
              rw [hl]; exact hsrc.first
          · simp only [Option.some.injEq, Prod.mk.injEq] at hfz
            obtain ⟨rfl, rfl⟩ := hfz
            exact ⟨E, Frz.refl hs, hsrc⟩
        obtain ⟨E1, g1, hsrc1⟩ := hfrz
        have htop1 : E.top ≤ E1.top := by rw [hs.top, g1.sim.top, g1.len]; exact Nat.le_refl _
        have hx1 : VR E1 x cx := hx.later (by rw [hs.top]; exact g1.tr.evol) htop1
        obtain ⟨cr, w', E', hr, hres⟩ := append_ok (n0 := C.n0) (ty := o.type) g1.sim (by rw [g1.len]; exact hR.len) ht hu htu hud (by simpa using hk) hsz hx1 hsrc1 happ
        refine value_wp (by rw [run (e' := Builtin.append_ c.argTypes o.type #[cx, cy]) (fun _ => rfl)]; exact value_run hr) (hn E' w' cr ?_)
        exact ⟨hres.sim, hres.val, g1.tr.trans (g1.len ▸ hres.tr), by rw [← g1.len]; exact hres.len, fun he => g1.sub.trans (hres.sub he)⟩
    · simp at h
  · -- copy
    rename_i x y
    obtain ⟨cx, cy, rfl, hx, hy⟩ := two rfl
    simp only [Option.bind_eq_some_iff, Option.map_eq_some_iff, Prod.exists, Prod.mk.injEq] at h
    obtain ⟨t, ht, v', H2, hcp, rfl, rfl, rfl⟩ := h
    obtain ⟨cr, w', E', hr, hres⟩ := copy_ok (n0 := C.n0) (ty := o.type) hs ht hx hy hcp
    exact value_wp (by rw [run (e' := Builtin.copy_ c.argTypes o.type #[cx, cy]) (fun _ => rfl)]; exact value_run hr) (hn E' w' cr hres)
  · -- clear
    rename_i x
    obtain ⟨cx, rfl, hx⟩ := one rfl
    simp only [Option.bind_eq_some_iff, Option.map_eq_some_iff, Prod.exists, Prod.mk.injEq] at h
    obtain ⟨t, ht, v', H2, hcp, rfl, rfl, rfl⟩ := h
    obtain ⟨cr, w', E', hr, hres⟩ := clear_ok (n0 := C.n0) (ty := o.type) hs ht hx hcp
    exact value_wp (by rw [run (e' := Builtin.clear_ c.argTypes o.type #[cx]) (fun _ => rfl)]; exact value_run hr) (hn E' w' cr hres)
  · simp at h

theorem op_ok (hk : OracleSound C.P B C.U.G C.K) (hx : ExtSound C.P B C.U.X) (hG : GlobOk C.U.G E) (hR : SR C B E s a w) {o : Oper} {v : AV} {H' : Heap} {e : Bool} (h : evalOp C s o.op o.type = some (v, H', e))
    {next : Act → World → Prop} {Q : Exit → Act → World → Prop} (hn : ∀ E' w' c, Res B C.n0 E s.H w v H' e E' w' c → next (a.put o.dst c) w') : o.wp C.P a w next Q := by
  have hs := hR.sim
  have hE := hR.eval
  obtain ⟨dst, op, type, pos, after, guard⟩ := o
  simp only at h hn
  have pure_ : ∀ {r : Option AV} {e' : Sem Value}, (execOp a.eval ⟨dst, op, type, pos, after, guard⟩) = (do pure (Next.value (← e'))) → (r.map fun v => (v, s.H, false)) = some (v, H', e) → (∀ u, r = some u → ∃ c, e'.run C.P w = .ok c w ∧ VR E u c) →
      Oper.wp C.P ⟨dst, op, type, pos, after, guard⟩ a w next Q := fun {r e'} he hq hc => by
    obtain ⟨h1, rfl, rfl⟩ := q_inv hq
    obtain ⟨c, h2, h3⟩ := hc _ h1
    exact value_wp (by rw [he]; exact value_run h2) (hn E w c (Res.same hs h3))
  cases op <;> simp only [evalOp, reduceCtorEq] at h
  case move x =>
    obtain ⟨h1, rfl, rfl⟩ := q_inv h
    obtain rfl := Option.some.inj h1
    exact value_wp rfl (hn E w _ (Res.same hs (hE x)))
  case assign x =>
    obtain ⟨h1, rfl, rfl⟩ := q_inv h
    obtain rfl := Option.some.inj h1
    exact value_wp rfl (hn E w _ (Res.same hs (hE x)))
  case pick c x y =>
    have hc := hE c
    split at h
    · rename_i hb
      rw [hb] at hc
      obtain ⟨h1, rfl, rfl⟩ := q_inv h
      obtain rfl := Option.some.inj h1
      exact value_wp (by simp [execOp, hc.bool_inv, asBool]) (hn E w _ (Res.same hs (hE x)))
    · rename_i hb
      rw [hb] at hc
      obtain ⟨h1, rfl, rfl⟩ := q_inv h
      obtain rfl := Option.some.inj h1
      exact value_wp (by simp [execOp, hc.bool_inv, asBool]) (hn E w _ (Res.same hs (hE y)))
    · simp at h
  case alloc t =>
    simp only [Option.map_eq_some_iff, Prod.mk.injEq] at h
    obtain ⟨z, hz, rfl, rfl, rfl⟩ := h
    obtain ⟨c, w', E', hr, hres⟩ := alloc_ok (n0 := C.n0) hs hR.len hz
    exact value_wp (value_run hr) (hn E' w' c hres)
  case box t x =>
    split at h
    · rename_i hp
      obtain ⟨rfl, rfl, rfl⟩ := by simpa using h
      obtain ⟨c, w', E', hr, hres⟩ := box_ok (P := C.P) (n0 := C.n0) (t := t) hs hR.len (hE x) hp
      exact value_wp (value_run hr) (hn E' w' c hres)
    · simp at h
  case build t ps =>
    refine pure_ rfl h (fun u hu => ?_)
    have hp := parts_ok hR ps.toList
    obtain ⟨c, h1, h2⟩ := build_ok (P := C.P) (w := w) hp hu
    refine ⟨c, ?_, h2⟩
    rw [← h1]
    congr 2
    apply Array.ext'
    simp
  case buildSlice t len ps =>
    split at h
    · rename_i el hu
      simp only [Option.bind_eq_some_iff] at h
      obtain ⟨sz, hsz, h⟩ := h
      split at h
      · rename_i hc
        simp only [Option.map_eq_some_iff, Prod.mk.injEq] at h
        obtain ⟨r, hr, rfl, rfl, rfl⟩ := h
        split at hr
        · rename_i hl
          subst hl
          split at hr
          · rename_i hemp
            obtain rfl := Option.some.inj hr
            obtain ⟨c, w', E', h1, h2⟩ := buildSlice0_ok (P := C.P) (n0 := C.n0) hs hR.len hu hsz
            have hps : ps = #[] := by
              apply Array.ext'
              simpa using hemp
            exact value_wp (value_run (by rw [hps]; simpa using h1)) (hn E' w' c (by simpa [AV.refless, reflessL] using h2))
          · simp at hr
        · rename_i hl
          simp only [Option.bind_eq_some_iff] at hr
          obtain ⟨z, hz, hr⟩ := hr
          split at hr
          · rename_i hzl
            have hp := parts_ok hR ps.toList
            obtain ⟨c, w', E', h1, h2⟩ := buildSlice_ok (P := C.P) (n0 := C.n0) hs hR.len hu hsz hz hzl hc.2 (by omega) hc.1 hp hr
            refine value_wp (value_run ?_) (hn E' w' c h2)
            rw [← h1]
            congr 2
            apply Array.ext'
            simp
          · simp at hr
      · simp at h
    · simp at h
  case load t x =>
    cases x with
    | global g =>
      simp only at h
      refine pure_ rfl h (fun u hu => ?_)
      simp only [Option.bind_eq_some_iff] at hu
      obtain ⟨v0, hg, hu⟩ := hu
      obtain ⟨c, h1, h2, _⟩ := load_ok hs (hG g v0 hg) hu
      exact ⟨c, h1, .of_PR h2⟩
    | _ =>
      simp only at h
      refine pure_ rfl h (fun u hu => ?_)
      obtain ⟨c, h1, h2, _⟩ := load_ok hs (hE _) hu
      exact ⟨c, h1, .of_PR h2⟩
  case store t x y =>
    simp only [Option.map_eq_some_iff, Prod.mk.injEq] at h
    obtain ⟨H1, h1, rfl, rfl, rfl⟩ := h
    obtain ⟨w', hr, hres⟩ := store_ok (n0 := C.n0) hs (hE x) (hE y) h1
    exact skip_wp (by simp [execOp, hr]) (hn E w' undef hres)
  case nilCheck x =>
    have hx := hE x
    split at h
    · rename_i p hv
      rw [hv] at hx
      obtain ⟨h1, rfl, rfl⟩ := q_inv h
      obtain rfl := Option.some.inj h1
      obtain ⟨ad, hc, _⟩ := PR.ptr_inv (show PR E (.ptr p) _ from hx)
      exact value_wp (by simp [execOp, hc]) (hn E w _ (Res.same hs (hc ▸ hx)))
    · rename_i u hv
      rw [hv] at hx
      obtain ⟨h1, rfl, rfl⟩ := q_inv h
      obtain rfl := Option.some.inj h1
      obtain ⟨b, q, c1, hc, _⟩ := PR.iptr_inv (show PR E (.iptr u) _ from hx)
      exact value_wp (by simp [execOp, hc]) (hn E w _ (Res.same hs (hc ▸ hx)))
    · rename_i t u hv
      rw [hv] at hx
      obtain ⟨h1, rfl, rfl⟩ := q_inv h
      obtain rfl := Option.some.inj h1
      obtain ⟨cu, hc, _⟩ := PR.iface_inv (show PR E (.iface t u) _ from hx)
      exact value_wp (by simp [execOp, hc]) (hn E w _ (Res.same hs (hc ▸ hx)))
    · rename_i f fa fb hv
      rw [hv] at hx
      obtain ⟨h1, rfl, rfl⟩ := q_inv h
      obtain rfl := Option.some.inj h1
      have h2 := (show PR E (.func (.func f) fa fb) _ from hx).leaf rfl
      generalize hcx : a.eval x = cx at h2 hx
      cases h2 with
      | func k1 k2 k3 k4 => exact value_wp (by simp [execOp, hcx]) (hn E w _ (Res.same hs hx))
    · simp at h
  case binOp op t x y yt =>
    have hx := hE x
    have hy := hE y
    split at h
    · rename_i cx cy hcx hcy
      refine pure_ rfl h (fun u hu => ?_)
      obtain ⟨c, h1, h2⟩ := liftPure_ok (E := E) (P := C.P) hu w
      rw [scalar_ok hx hcx, scalar_ok hy hcy]
      refine ⟨c, ?_, h2⟩
      simp only [Sem.run_bind, scal_pure hcx hcy, Result.andThen_ok]
      exact h1
    · rename_i hcx hcy
      split at h
      · simp at h
      · rename_i hg
        split at h
        · refine pure_ rfl h (fun u hu => ?_)
          simp only [Option.map_eq_some_iff] at hu
          obtain ⟨r, hr, rfl⟩ := hu
          exact ⟨_, (eq_ok hx hy hcx hcy (by simpa using hg) hr).1, VR.bool⟩
        · refine pure_ rfl h (fun u hu => ?_)
          simp only [Option.map_eq_some_iff] at hu
          obtain ⟨r, hr, rfl⟩ := hu
          exact ⟨_, (eq_ok hx hy hcx hcy (by simpa using hg) hr).2, VR.bool⟩
        · simp at h
    · simp at h
  case unOp op t x =>
    refine pure_ rfl h (fun u hu => ?_)
    simp only [Option.bind_eq_some_iff] at hu
    obtain ⟨cx, hcx, hu⟩ := hu
    obtain ⟨c, h1, h2⟩ := liftPure_ok (E := E) (P := C.P) hu w
    exact ⟨c, by rw [scalar_ok (hE x) hcx]; exact h1, h2⟩
  case convert src d x =>
    simp only [Option.map_eq_some_iff, Prod.mk.injEq, Prod.exists] at h
    obtain ⟨v1, H1, h1, rfl, rfl, rfl⟩ := h
    obtain ⟨c, w', E', hr, hres⟩ := convert_ok (n0 := C.n0) hs hR.len (hE x) h1
    exact value_wp (value_run hr) (hn E' w' c hres)
  case sliceToArrayPointer t x =>
    have hx := hE x
    split at h
    · rename_i n el p sz m len hu hv
      rw [hv] at hx
      split at h
      · rename_i hc
        obtain ⟨h1, rfl, h0, hsz⟩ := hc
        refine pure_ rfl h (fun u hu' => ?_)
        obtain rfl := Option.some.inj hu'
        obtain ⟨ad, cap, hcx, hid, hcap, h2⟩ := PR.sl_inv (show PR E (.sl p sz n 0 len) _ from hx)
        have hlt : ¬ len < n := by omega
        refine ⟨.pointer (some ad), by simp [Instr.arrayAt, run_underlying hu, hcx, hlt], .of_PR (v := .ptr p) ⟨[_], .ptr hid (fun L hL => ?_) .nil, rfl⟩⟩
        rcases h2 L hL with h3 | ⟨h3, _, _, h4⟩
        · exact .inl h3
        · rcases h4 with h4 | h4
          · omega
          · exact .inr ⟨h3, by simpa using h4⟩
      · simp at h
    · rename_i n el sz xs hu hv
      rw [hv] at hx
      split at h
      · rename_i hc
        obtain ⟨⟨hn0, h1⟩, hsz⟩ := hc
        refine pure_ rfl h (fun u hu' => ?_)
        obtain rfl := Option.some.inj hu'
        obtain ⟨b, q, sp, c1, cap, hcx, hsp, hr, hf, he, hcap, hm⟩ := PR.isl_inv (show PR E (.isl sz xs) _ from hx)
        obtain rfl : sp = none := by
          rcases hsp with h | h
          · exact h
          · simp [h] at h1; omega
        have hlt : ¬ xs.length < n := by omega
        have hft := hf.take_each he h1
        refine ⟨.pointer (some ⟨b, q, none⟩), by simp [Instr.arrayAt, run_underlying hu, hcx, hlt], .of_PR (v := .iptr _) ⟨[_], .iptr (c1 := c1.take (n * sz)) ?_ ?_ (fun j c hj => ?_) .nil, rfl⟩⟩
        · simp only [AV.refless]
          exact reflessL_sub hr (fun y hy => List.mem_of_mem_take hy)
        · have := FR.arr (e := sz) (vs := []) (cs := []) hft (fun y hy => he y (List.mem_of_mem_take hy)) .nil
          simpa using this
        · refine hm j c ?_
          rw [List.getElem?_take] at hj
          split at hj
          · exact hj
          · simp at hj
      · simp at h
    · simp at h
  case makeInterface t x =>
    split at h
    · simp at h
    · rename_i d hni hu
      split at h
      · rename_i hp
        refine pure_ rfl h (fun u hu' => ?_)
        obtain rfl := Option.some.inj hu'
        obtain ⟨cs, h1, h2⟩ := (hE x).toPR hp
        refine ⟨.iface t (a.eval x), ?_, .of_PR (v := .iface t _) ⟨[_], .iface h1 .nil, ?_⟩⟩
        · cases d <;> first | (exfalso; exact hni _ rfl) | simp [Instr.makeInterface, run_underlying hu]
        · rw [h2]; rfl
      · simp at h
    · simp at h
  case makeFunc fn first captured =>
    split at h
    · rename_i f
      split at h
      · rename_i hall
        refine pure_ rfl h (fun u hu' => ?_)
        obtain rfl := Option.some.inj hu'
        simp only [List.all_append, Bool.and_eq_true] at hall
        have h1 := leaves_ok hR first.toList hall.1
        have h2 := leaves_ok hR captured.toList hall.2
        refine ⟨.func (.func f) (first.map a.eval) (captured.map a.eval), rfl, .of_PR (v := .func _ _ _) ⟨[_], .func (fun x hx => ?_) h1 h2 .nil, ?_⟩⟩
        · rcases List.mem_append.1 hx with hx | hx
          · have := List.all_eq_true.1 hall.1 x hx
            simp at this
            exact this.2
          · have := List.all_eq_true.1 hall.2 x hx
            simp at this
            exact this.2
        · simp only [pack, AV.isAgg, Bool.false_eq_true, if_false, List.headD_cons]
          congr 1
          · apply Array.ext'; simp
          · apply Array.ext'; simp
      · simp at h
    · simp at h
  case makeSlice t l c =>
    split at h
    · rename_i el hu
      simp only [Option.bind_eq_some_iff] at h
      obtain ⟨sz, hsz, by_, hby, nl, hl, nc, hc, z, hz, h⟩ := h
      split at h
      · rename_i hh
        obtain ⟨rfl, rfl, rfl⟩ := by simpa using h
        obtain ⟨cv, w', E', hr, hres⟩ := makeSlice_ok (n0 := C.n0) hs hR.len hu hsz hby (hE l) hl (hE c) hc hz hh.1 hh.2.1 hh.2.2.1 hh.2.2.2.1 hh.2.2.2.2
        exact value_wp (value_run hr) (hn E' w' cv hres)
      · simp at h
    · simp at h
  case slice t x lo hi mx =>
    have hlo : ∀ v, lo.map (s.eval C.A) = some v → ∃ c, lo.map a.eval = some c ∧ VR E v c := fun v hv => by
      simp only [Option.map_eq_some_iff] at hv
      obtain ⟨y, rfl, rfl⟩ := hv
      exact ⟨_, rfl, hE y⟩
    have hlo' : lo.map (s.eval C.A) = none → lo.map a.eval = none := fun hv => by cases lo <;> simp_all
    cases mx with
    | none =>
      simp only at h
      refine pure_ rfl h (fun u hu => ?_)
      exact slice_ok hs (hE x) hlo hlo' (fun v hv => by
        simp only [Option.map_eq_some_iff] at hv
        obtain ⟨y, rfl, rfl⟩ := hv
        exact ⟨_, rfl, hE y⟩) (fun hv => by cases hi <;> simp_all) hu
    | some m =>
      cases hi with
      | none => simp at h
      | some hi =>
        simp only at h
        exact pure_ rfl h (fun u hu => slice3_ok (hE x) hlo hlo' (hE hi) (hE m) hu)
  case fieldAddr t x f => exact pure_ rfl h (fun u hu => fieldAddr_ok (hE x) hu)
  case field t x f => exact pure_ rfl h (fun u hu => field_ok (hE x) hu)
  case indexAddr t x i => exact pure_ rfl h (fun u hu => indexAddr_ok (hE x) (hE i) hu)
  case index t x i => exact pure_ rfl h (fun u hu => index_ok (hE x) (hE i) hu)
  case typeAssert x xt as ok => exact pure_ rfl h (fun u hu => typeAssert_ok (hE x) hu)
  case extract t i =>
    have ht := hE t
    split at h
    · rename_i vs hv
      rw [hv] at ht
      refine pure_ rfl h (fun u hu => ?_)
      obtain ⟨cvs, hc, hl, hall⟩ := ht
      have hi : i < vs.length := by
        rcases Nat.lt_or_ge i vs.length with h | h
        · exact h
        · simp [List.getElem?_eq_none h] at hu
      have hci : cvs[i]? = some cvs[i] := List.getElem?_eq_getElem (by omega)
      refine ⟨cvs[i], by simp [Instr.extract, hc, hci], ?_⟩
      rcases hall i u _ hu hci with rfl | h
      · trivial
      · exact .of_PR h
    · simp at h
  case call c =>
    cases hc : c.callee <;> rw [hc] at h <;> simp only at h
    · rename_i f
      simp only [Option.bind_eq_some_iff, Prod.exists] at h
      obtain ⟨g, all, h1, h2⟩ := h
      obtain ⟨first, captured, hf, hl, hv⟩ := callee_ok (hE f) h1 (cargs := c.args.toList.map a.eval) (by simp) (args_ok hR c.args.toList)
      refine enter_ok hk hx hG hR h2 hl hv ?_ hn
      simp only [execOp, resolve, hc, Deferred.ofValue, hf]
      simp [invoke]
      congr 2
      apply Array.ext'
      simp
    · rename_i r m
      simp only [Option.bind_eq_some_iff, Prod.exists] at h
      obtain ⟨g, rv, h1, h2⟩ := h
      obtain ⟨crv, k1, k2⟩ := method_ok (w := w) (hE r) h1 (c.args.toList.map a.eval)
      refine enter_ok hk hx hG hR h2 (cargs := crv :: c.args.toList.map a.eval) (by simp) (fun i v d hv hd => ?_) ?_ hn
      · cases i with
        | zero =>
          simp only [List.getElem?_cons_zero, Option.some.injEq] at hv hd
          subst hv hd
          exact k2
        | succ i => exact args_ok hR c.args.toList i v d (by simpa using hv) (by simpa using hd)
      · rw [← k1]
        have h0 : (#[a.eval r] ++ Array.map a.eval c.args)[0]? = some (a.eval r) := by simp [Array.getElem?_append]
        simp only [execOp, resolve, hc]
        simp [invoke, h0]
        congr 2
        apply Array.ext'
        simp
        rw [List.take_of_length_le (by simp)]
    · rename_i b
      exact builtin_ok hR rfl hc h hn

end
end Go.X
