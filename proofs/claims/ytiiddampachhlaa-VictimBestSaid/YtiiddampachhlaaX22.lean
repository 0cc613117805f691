/-
  Operations that change nothing; what an operation hangs on; parts of a state hidden.
-/
import Derived.Test.YtiiddampachhlaaX21
namespace Go.X
open Go.RowKit (Below)

section
variable {C : Ctx} {s s' : St}

mutual
theorem AV.beq_eq : ∀ (x y : AV), x.beq y = true → x = y
  | .int j a, y, h => by cases y <;> simp_all [AV.beq]
  | .bool a, y, h => by cases y <;> simp_all [AV.beq]
  | .str a, y, h => by cases y <;> simp_all [AV.beq]
  | .nilp, y, h => by cases y <;> simp_all [AV.beq]
  | .ptr p, y, h => by cases y <;> simp_all [AV.beq]
  | .nils, y, h => by cases y <;> simp_all [AV.beq]
  | .sl p a b c d, y, h => by cases y <;> simp_all [AV.beq]
  | .nilm, y, h => by cases y <;> simp_all [AV.beq]
  | .nilf, y, h => by cases y <;> simp_all [AV.beq]
  | .hnd a b, y, h => by cases y <;> simp_all [AV.beq]
  | .nili, y, h => by cases y <;> simp_all [AV.beq]
  | .iface t v, y, h => by
    cases y <;> simp [AV.beq] at h
    rw [h.1, AV.beq_eq v _ h.2]
  | .agg n xs, y, h => by
    cases y <;> simp [AV.beq] at h
    rw [h.1, beqL_eq xs _ h.2]
  | .arr n xs, y, h => by
    cases y <;> simp [AV.beq] at h
    rw [h.1, beqL_eq xs _ h.2]
  | .isl n xs, y, h => by
    cases y <;> simp [AV.beq] at h
    rw [h.1, beqL_eq xs _ h.2]
  | .iptr v, y, h => by
    cases y <;> simp [AV.beq] at h
    rw [AV.beq_eq v _ h]
  | .map i, y, h => by cases y <;> simp_all [AV.beq]
  | .bad, y, h => by simp [AV.beq] at h
  | .func .., y, h => by simp [AV.beq] at h
  | .tuple _, y, h => by simp [AV.beq] at h
theorem beqL_eq : ∀ (x y : List AV), beqL x y = true → x = y
  | [], y, h => by cases y <;> simp_all [beqL]
  | x :: xs, y, h => by
    cases y <;> simp [beqL] at h
    rw [AV.beq_eq x _ h.1, beqL_eq xs _ h.2]
end

theorem mm (r : Option AV) (H1 H2 : Heap) : (r.map fun v => (v, H2, false)) = (r.map fun v => (v, H1, false)).map fun (r : AV × Heap × Bool) => (r.1, H2, false) := by cases r <;> rfl

theorem quiet_map {op : Op} {ty : TypeId} (hl : isLoud C.P op = false) (hr : isRead op = false) (H2 : Heap) : evalOp C { s with H := H2 } op ty = (evalOp C s op ty).map fun r => (r.1, H2, false) := by
  have hevf : ∀ H2, St.eval C.A { s with H := H2 } = s.eval C.A := fun H2 => funext (fun x => by cases x <;> rfl)
  cases op <;> simp only [isLoud, isRead, reduceCtorEq] at hl hr <;> simp only [evalOp, hevf]
  case move x => exact mm _ _ _
  case assign x => exact mm _ _ _
  case pick c x y =>
    cases s.eval C.A c <;> try rfl
    rename_i b
    cases b <;> rfl
  case build t ps => exact mm _ _ _
  case nilCheck x =>
    cases s.eval C.A x <;> try rfl
    rename_i f _ _
    cases f <;> rfl
  case binOp o t x y yt =>
    cases (s.eval C.A x).scalar <;> cases (s.eval C.A y).scalar <;> try rfl
    · simp only
      split
      · rfl
      · cases o <;> first | rfl | exact mm _ _ _
    · exact mm _ _ _
  case unOp o t x => exact mm _ _ _
  case sliceToArrayPointer t x =>
    cases C.P.underlying t <;> try rfl
    rename_i d
    cases d <;> try rfl
    cases s.eval C.A x <;> try rfl
    · rename_i off _
      cases off <;> try rfl
      simp only
      split <;> rfl
    · simp only
      split <;> rfl
  case makeInterface t x =>
    cases C.P.underlying t <;> try rfl
    rename_i d
    cases d <;> first | rfl | (simp only; split <;> rfl)
  case makeFunc fn first captured =>
    cases fn <;> try rfl
    simp only
    split <;> rfl
  case fieldAddr t x f => exact mm _ _ _
  case field t x f => exact mm _ _ _
  case indexAddr t x i => exact mm _ _ _
  case index t x i => exact mm _ _ _
  case typeAssert x xt as ok => exact mm _ _ _
  case extract t i =>
    cases s.eval C.A t <;> first | rfl | exact mm _ _ _
  case call c =>
    obtain ⟨callee, args, argTypes⟩ := c
    cases callee with
    | value f => simp at hl
    | invoke r m => simp at hl
    | builtin b =>
      simp only
      generalize args.toList.map (s.eval C.A) = avs
      cases b <;> simp only [reduceCtorEq] at hl
      case len =>
        match avs with
        | [] => rfl
        | [x] =>
          simp only [evalBuiltin]
          cases argTypes[0]? with
          | none => rfl
          | some t =>
            simp only [Option.bind_some]
            cases C.P.underlying t with
            | none => rfl
            | some d =>
              cases d <;> try rfl
              · cases x <;> rfl
              · rename_i u
                simp only
                cases C.P.underlying u with
                | none => rfl
                | some d => cases d <;> rfl
              · cases x <;> first | rfl | exact mm _ _ _
        | _ :: _ :: _ => rfl
      case min =>
        match avs with
        | [] => rfl
        | x :: xs => exact mm _ _ _
      case max =>
        match avs with
        | [] => rfl
        | x :: xs => exact mm _ _ _

theorem quiet_ok {op : Op} {ty : TypeId} {v : AV} {H' : Heap} {e : Bool} (h : evalOp C s op ty = some (v, H', e)) (hl : isLoud C.P op = false) : H' = s.H ∧ e = false ∧
    (isRead op = false → ∀ H2, evalOp C { s with H := H2 } op ty = some (v, H2, false)) := by
  by_cases hr : isRead op = true
  · refine (fun (k : H' = s.H ∧ e = false) => ⟨k.1, k.2, fun hh => by simp [hr] at hh⟩) ?_
    cases op <;> simp only [isRead, reduceCtorEq] at hr
    case load t x =>
      cases x <;> (simp only [evalOp] at h; exact (q_inv h).2)
    case convert src d x =>
      simp only [evalOp, Option.map_eq_some_iff, Prod.mk.injEq, Prod.exists] at h
      obtain ⟨v1, H1, h1, rfl, rfl, rfl⟩ := h
      refine ⟨?_, rfl⟩
      unfold convertAV at h1
      split at h1
      · exact (Prod.mk.inj (Option.some.inj h1)).2.symm
      · exact (Prod.mk.inj (Option.some.inj h1)).2.symm
      · rename_i hu _; simp [isLoud, hu] at hl
      · split at h1
        · simp only [Option.bind_eq_some_iff, Option.map_eq_some_iff, Prod.mk.injEq] at h1
          obtain ⟨_, _, _, _, _, h2⟩ := h1
          exact h2.symm
        · simp at h1
      · simp at h1
    case slice t x lo hi mx =>
      cases mx with
      | none => simp only [evalOp] at h; exact (q_inv h).2
      | some m =>
        cases hi with
        | none => simp [evalOp] at h
        | some hi => simp only [evalOp] at h; exact (q_inv h).2
  · have hr' : isRead op = false := by simpa using hr
    have k := fun H2 => quiet_map (C := C) (s := s) (ty := ty) hl hr' H2
    have k0 := k s.H
    rw [show ({ s with H := s.H } : St) = s from rfl, h] at k0
    simp only [Option.map_some, Option.some.injEq, Prod.mk.injEq, true_and] at k0
    exact ⟨k0.1, k0.2, fun _ H2 => by rw [k, h]; rfl⟩

theorem evalOp_congr {op : Op} {ty : TypeId} (hH : s.H = s'.H) (h : ∀ x ∈ op.operands.toList, s.eval C.A x = s'.eval C.A x) : evalOp C s op ty = evalOp C s' op ty := by
  cases op <;> try simp only [evalOp]
  case load t x =>
    cases x with
    | global g => simp only; rw [hH]
    | tmp t => simp only; rw [hH, h (.tmp t) (by simp [Op.operands])]
    | const c => simp only; rw [hH]; rfl
    | func f => simp only; rw [hH]; rfl
  case build t ps =>
    have : (ps.toList.map fun x => (x.1, s.eval C.A x.2)) = ps.toList.map fun x => (x.1, s'.eval C.A x.2) := List.map_congr_left (fun x hx => by
      rw [h x.2 (by simp only [Op.operands, List.mem_map]; exact ⟨x, hx, rfl⟩)])
    rw [hH, this]
  case buildSlice t n ps =>
    have : (ps.toList.map fun x => (x.1, s.eval C.A x.2)) = ps.toList.map fun x => (x.1, s'.eval C.A x.2) := List.map_congr_left (fun x hx => by
      rw [h x.2 (by simp only [Op.operands, List.mem_map]; exact ⟨x, hx, rfl⟩)])
    rw [hH, this]
  case makeFunc fn first captured =>
    have h1 : first.toList.map (s.eval C.A) = first.toList.map (s'.eval C.A) := List.map_congr_left (fun x hx => h x (by simp [Op.operands]; left; simpa using hx))
    have h2 : captured.toList.map (s.eval C.A) = captured.toList.map (s'.eval C.A) := List.map_congr_left (fun x hx => h x (by simp [Op.operands]; right; simpa using hx))
    rw [hH, h1, h2]
  case slice t x lo hi mx =>
    cases mx with
    | some m =>
      cases hi with
      | none => rfl
      | some hi =>
        simp only
        have h0 := h x (by simp [Op.operands])
        have h1 : lo.map (s.eval C.A) = lo.map (s'.eval C.A) := by
          cases lo with
          | none => rfl
          | some y => simp only [Option.map_some]; rw [h y (by simp [Op.operands])]
        rw [hH, h0, h1, h hi (by simp [Op.operands]), h m (by simp [Op.operands])]
    | none =>
      simp only
      have h0 := h x (by simp [Op.operands])
      have h1 : lo.map (s.eval C.A) = lo.map (s'.eval C.A) := by
        cases lo with
        | none => rfl
        | some y => simp only [Option.map_some]; rw [h y (by simp [Op.operands])]
      have h2 : hi.map (s.eval C.A) = hi.map (s'.eval C.A) := by
        cases hi with
        | none => rfl
        | some y => simp only [Option.map_some]; rw [h y (by simp [Op.operands])]
      rw [hH, h0, h1, h2]
  case call c =>
    have h1 : c.args.toList.map (s.eval C.A) = c.args.toList.map (s'.eval C.A) := List.map_congr_left (fun x hx => h x (by simp [Op.operands, Call.operands]; right; simpa using hx))
    rw [h1]
    cases hc : c.callee with
    | builtin b =>
      simp only
      unfold evalBuiltin
      rw [hH]
    | value f =>
      simp only
      rw [h f (by simp [Op.operands, Call.operands, hc])]
      congr 1
      funext x
      unfold enterAV
      rw [hH]
    | invoke r m =>
      simp only
      rw [h r (by simp [Op.operands, Call.operands, hc])]
      congr 1
      funext x
      unfold enterAV
      rw [hH]
  all_goals first
    | rfl
    | (simp only [hH]; done)
    | (rename_i x; simp only [hH, h x (by simp [Op.operands])]; done)
    | (rename_i x _; simp only [hH, h x (by simp [Op.operands])]; done)
    | (rename_i x y; simp only [hH, h x (by simp [Op.operands]), h y (by simp [Op.operands])]; done)
    | (rename_i x y _; simp only [hH, h x (by simp [Op.operands]), h y (by simp [Op.operands])]; done)
    | (rename_i x _ _; simp only [hH, h x (by simp [Op.operands])]; done)
    | (rename_i x y z; simp only [hH, h x (by simp [Op.operands]), h y (by simp [Op.operands]), h z (by simp [Op.operands])]; done)
    | (rename_i x _ _ _; simp only [hH, h x (by simp [Op.operands])]; done)

/-! Some temporaries hidden. -/
def hide (dead : Nat → Bool) (s : St) : St :=
  { s with L := s.L.map fun x => if dead x.1 then (x.1, .bad) else x, T := s.T.map fun x => if dead x.1 then (x.1, .bad) else x }

theorem look_hide (dead : Nat → Bool) (t : Nat) : ∀ (l : List (Nat × AV)), look (l.map fun x => if dead x.1 then (x.1, .bad) else x) t = if dead t then .bad else look l t
  | [] => by simp [look]
  | (k, v) :: l => by
    have ih := look_hide dead t l
    simp only [List.map_cons]
    by_cases hk : k = t
    · subst hk
      by_cases hd : dead k <;> simp [look, hd]
    · by_cases hd : dead k <;> simp [look, hd, hk, ih]

theorem hide_get (dead : Nat → Bool) (s : St) (A : FAnn) (t : Nat) : (hide dead s).get A t = if dead t then .bad else s.get A t := by
  unfold hide St.get
  split <;> exact look_hide dead t _

theorem set_get_ne {A : FAnn} {s : St} {d t : Nat} {v : AV} (h : d ≠ t) : (s.set A d v).get A t = s.get A t := by
  unfold St.set St.get
  split
  · split
    · simp only; rw [look_upd, if_neg (fun e => h e.symm)]
    · rfl
  · split
    · rfl
    · simp [look, h]

theorem set_get_self {A : FAnn} {s : St} {d : Nat} {v : AV} : (s.set A d v).get A d = v ∨ (s.set A d v).get A d = .bad := by
  unfold St.set St.get
  split
  · simp only; exact look_upd_self _ _ _
  · simp [look]

theorem stepOp_get {ops : List Oper} {o : Oper} (h : stepOp C ops s o = some s') {t : Nat} (ht : o.dst ≠ some t) : s'.get C.A t = s.get C.A t := by
  obtain ⟨b, _, h⟩ := stepOp_res h
  rcases h with ⟨_, v, H', e, _, rfl⟩ | ⟨_, rfl⟩
  · unfold St.res
    split
    · rename_i d hd
      exact set_get_ne (fun e => ht (by rw [hd, e]))
    · rfl
  · split
    · rename_i d hd
      exact set_get_ne (fun e => ht (by rw [hd, e]))
    · rfl

theorem quiet_step {ops : List Oper} {o : Oper} (h : stepOp C ops s o = some s') (hl : isLoud C.P o.op = false) : s'.H = s.H ∧ s'.esc = s.esc := by
  obtain ⟨b, _, h⟩ := stepOp_res h
  rcases h with ⟨_, v, H', e, he, rfl⟩ | ⟨_, rfl⟩
  · obtain ⟨h1, h2, _⟩ := quiet_ok he hl
    exact ⟨by rw [St.res_H, h1], by rw [St.res_esc, h2]; simp⟩
  · split
    · exact ⟨St.set_H _ _ _ _, St.set_esc _ _ _ _⟩
    · exact ⟨rfl, rfl⟩

end
end Go.X
