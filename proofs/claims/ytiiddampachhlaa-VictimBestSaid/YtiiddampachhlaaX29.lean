/-
  Functions without a body here: Go's reflectlite, as errors.Is and errors.As need it.
-/
import Derived.Test.YtiiddampachhlaaX28
namespace Go.X
open Go.RowKit (Below)
open Go.Extern

/-- The entries, by number. -/
def rowOf : Nat → (Array Value → Sem Value)
  | 1 => ReflectliteType.typeOf
  | 2 => ReflectliteType.method ReflectliteType.elem
  | 3 => ReflectliteType.method fun t => do Rtype.noPackHeld "Comparable" t; pure (.bool (← typeInfo t).comparable)
  | 4 => ReflectliteType.relation "Implements" ReflectliteType.implements_
  | 5 => ReflectliteType.relation "AssignableTo" ReflectliteType.assignableTo
  | 7 => ReflectliteType.abiMethod fun t => do pure (.int .u8 (← Rtype.kind t))
  | 10 => fun args => ReflectliteValue.unpack (args.getD 0 (.tuple #[]))
  | 11 => ReflectliteValue.methodAny (ReflectliteValue.valueError "reflectlite.Value.Type" 0) fun t _ _ _ => ReflectliteType.toType t
  | 12 => ReflectliteValue.method (ReflectliteValue.valueError "reflectlite.Value.IsNil" 0) ReflectliteValue.isNil
  | 13 => ReflectliteValue.method (ReflectliteValue.valueError "reflectlite.Value.Elem" 0) ReflectliteValue.elem
  | 14 => ReflectliteValue.set
  | _ => fun _ => .halt .blocked

def extName : Nat → String
  | 1 => "internal/reflectlite.TypeOf"
  | 2 => "(internal/reflectlite.rtype).Elem"
  | 3 => "(internal/reflectlite.rtype).Comparable"
  | 4 => "(internal/reflectlite.rtype).Implements"
  | 5 => "(internal/reflectlite.rtype).AssignableTo"
  | 7 => "(*internal/abi.Type).Kind"
  | 10 => "internal/reflectlite.ValueOf"
  | 11 => "(internal/reflectlite.Value).Type"
  | 12 => "(internal/reflectlite.Value).IsNil"
  | 13 => "(internal/reflectlite.Value).Elem"
  | 14 => "(internal/reflectlite.Value).Set"
  | _ => ""

/-- A reflectlite.Value: its type, where it lies, its flags. -/
def valOf (P : Program) : AV → Option (TypeId × AV × Nat)
  | .agg _ [.hnd b t, p, .int .u64 f] => if b = P.globals.size ∧ 0 < f then
      match p with
      | .ptr p => some (t, .ptr p, f.toNat)
      | .iptr v => some (t, .iptr v, f.toNat)
      | _ => none
    else none
  | _ => none

def isNilAV : AV → Option Bool
  | .nilp => some true
  | .ptr _ => some false
  | .iptr _ => some false
  | .hnd _ _ => some false
  | .nils => some true
  | _ => none

def extAV (P : Program) (k : Nat) (args : List AV) (H : Heap) : Option (AV × Heap × Bool) :=
  match k, args with
  | 1, [.nili] => some (.nili, H, false)
  | 1, [.iface t _] => (peel P (ReflectliteType.toType t)).map fun c => (reabs c, H, false)
  | 10, [.iface t v] => if v.plain then (peel P (Rtype.kind t)).map fun kd =>
      let r := newVarAV H v
      (.agg 3 [.hnd P.globals.size t, r.1, .int .u64 (Int.ofNat (kd + 128 + 0))], r.2, false) else none
  | 11, [x] => (valOf P x).bind fun y => (peel P (ReflectliteType.toType y.1)).map fun c => (reabs c, H, false)
  | 12, [x] => (valOf P x).bind fun y => (peel P (Rtype.noPack "a Value asked or handed on" y.1)).bind fun _ =>
      if y.2.2 % 32 = 22 then (loadAV P H y.1 y.2.1).bind fun u => (isNilAV u).map fun b => (.bool b, H, false) else none
  | 13, [x] => (valOf P x).bind fun y => (peel P (Rtype.noPack "a Value asked or handed on" y.1)).bind fun _ =>
      if y.2.2 % 32 = 22 then (loadAV P H y.1 y.2.1).bind fun u => (peel P (Rtype.elem? y.1)).bind fun e => match u, e with
        | .ptr q, some e => (peel P (Rtype.kind e)).map fun kd => (.agg 3 [.hnd P.globals.size e, .ptr q, .int .u64 (Int.ofNat (kd + 128 + 256))], H, false)
        | _, _ => none
      else none
  | 14, [x, z] => (valOf P x).bind fun y => (valOf P z).bind fun y2 =>
      (peel P (Rtype.noPack "a Value asked or handed on" y.1)).bind fun _ => (peel P (Rtype.noPack "a Value asked or handed on" y2.1)).bind fun _ =>
      if y.2.2 / 256 % 2 = 0 then none else (loadAV P H y2.1 y2.2.1).bind fun val => (peel P (Rtype.directlyAssignable y.1 y2.1)).bind fun d =>
      if d then (storeAV P H y.1 y.2.1 val).map fun H' => (.bad, H', !val.refless) else none
  | 1, _ => none
  | 10, _ => none
  | 11, _ => none
  | 12, _ => none
  | 13, _ => none
  | 14, _ => none
  | k, args => (args.mapM AV.conc).bind fun cs => (peel P (rowOf k cs.toArray)).map fun c => (reabs c, H, false)

def extX (P : Program) (tab : List (Nat × Nat)) : Oracle := fun f args H => match tab.lookup f with
  | some k => extAV P k args H
  | none => none

/-- What is asked of the table of a program's entries. -/
def TabSound (P : Program) (tab : List (Nat × Nat)) : Prop :=
  ∀ x ∈ tab, ∃ fn, P.funcs[x.1]? = some fn ∧ (fn.name == "runtime.NumGoroutine") = false ∧ fn.body.isNone = true ∧ Extern.findNext fn = none ∧ Extern.find fn = some (rowOf x.2)

section
variable {P : Program} {B : Nat} {E E' : Env} {H : Heap} {w w' : World}

theorem valOf_ok {x : AV} {c : Value} (h : VR E x c) {t : TypeId} {p : AV} {f : Nat} (hv : valOf P x = some (t, p, f)) :
    ∃ ad, c = .agg #[.pointer (some ⟨P.globals.size, t, none⟩), .pointer (some ad), .int .u64 (f : Int)] ∧ VR E p (.pointer (some ad)) ∧ 0 < f := by
  unfold valOf at hv
  split at hv
  · rename_i n b t' p' f'
    split at hv
    · rename_i hc
      obtain ⟨rfl, hf⟩ := hc
      obtain ⟨cs, h1, rfl⟩ := (show PR E (.agg n [.hnd _ t', p', .int .u64 f']) c from h)
      cases h1 with
      | agg g1 g2 g3 =>
      cases g3
      obtain ⟨a1, a2, rfl, k1, k2⟩ := g1.cons_inv
      obtain ⟨b1, b2, rfl, k3, k4⟩ := k2.cons_inv
      cases k1 with
      | hnd k1 =>
      cases k1
      cases k4 with
      | int k4 =>
      cases k4
      have hnat : ((f'.toNat : Nat) : Int) = f' := Int.toNat_of_nonneg (by omega)
      split at hv
      · simp only [Option.some.injEq, Prod.mk.injEq] at hv
        obtain ⟨rfl, rfl, rfl⟩ := hv
        cases k3 with
        | ptr q1 q2 q3 =>
        cases q3
        refine ⟨_, ?_, VR.of_PR (v := .ptr _) ⟨[_], .ptr q1 q2 .nil, rfl⟩, by omega⟩
        simp [pack, AV.isAgg, hnat]
      · simp only [Option.some.injEq, Prod.mk.injEq] at hv
        obtain ⟨rfl, rfl, rfl⟩ := hv
        cases k3 with
        | iptr q1 q2 q3 q4 =>
        cases q4
        refine ⟨_, ?_, VR.of_PR (v := .iptr _) ⟨[_], .iptr q1 q2 q3 .nil, rfl⟩, by omega⟩
        simp [pack, AV.isAgg, hnat]
      · simp at hv
    · simp at hv
  · simp at hv

theorem parts_run {t : TypeId} {ad : Addr} {f : Nat} (hf : 0 < f) (w : World) :
    (ReflectliteValue.partsAny (.agg #[.pointer (some ⟨P.globals.size, t, none⟩), .pointer (some ad), .int .u64 (f : Int)])).run P w = .ok (some (t, ad, f)) w := by
  obtain ⟨n, rfl⟩ : ∃ n, f = n + 1 := ⟨f - 1, by omega⟩
  have h1 : ReflectliteValue.partsAny (.agg #[.pointer (some ⟨P.globals.size, t, none⟩), .pointer (some ad), .int .u64 ((n + 1 : Nat) : Int)]) =
      (do pure (some (← Rtype.ofHandle (.pointer (some ⟨P.globals.size, t, none⟩)), ad, ((n + 1 : Nat) : Int).toNat))) := rfl
  have h2 : (Rtype.ofHandle (.pointer (some ⟨P.globals.size, t, none⟩))).run P w = .ok t w := by
    simp [Rtype.ofHandle, handleType]
  rw [h1]
  simp only [Sem.run_bind, h2, Result.andThen_ok, Sem.run_pure]
  rfl


theorem methodAny_run {z : Sem Value} {f : TypeId → Addr → Nat → Nat → Sem Value} {v : Value} {t : TypeId} {a : Addr} {fl : Nat} (h : (ReflectliteValue.partsAny v).run P w = .ok (some (t, a, fl)) w) :
    (ReflectliteValue.methodAny z f #[v]).run P w = (f t a fl (fl % 32)).run P w := by
  have h1 : ReflectliteValue.methodAny z f #[v] = (ReflectliteValue.partsAny v >>= fun r => match r with | none => z | some (t, a, fl) => f t a fl (fl % 32)) := rfl
  rw [h1, Sem.run_bind, h]
  rfl

theorem parts_some {v : Value} {t : TypeId} {a : Addr} {fl : Nat} (h : (ReflectliteValue.partsAny v).run P w = .ok (some (t, a, fl)) w) (hn : (Rtype.noPack "a Value asked or handed on" t).run P w = .ok () w) :
    (ReflectliteValue.parts v).run P w = .ok (some (t, a, fl)) w := by
  have h1 : ReflectliteValue.parts v = (ReflectliteValue.partsAny v >>= fun r => match r with | some (t, a, fl) => (Rtype.noPack "a Value asked or handed on" t >>= fun _ => pure (some (t, a, fl))) | none => pure none) := rfl
  rw [h1, Sem.run_bind, h, Result.andThen_ok]
  simp only [Sem.run_bind, hn, Result.andThen_ok]
  rfl

theorem method_run {z : Sem Value} {f : TypeId → Addr → Nat → Nat → Sem Value} {v : Value} {t : TypeId} {a : Addr} {fl : Nat} (h : (ReflectliteValue.partsAny v).run P w = .ok (some (t, a, fl)) w) (hn : (Rtype.noPack "a Value asked or handed on" t).run P w = .ok () w) :
    (ReflectliteValue.method z f #[v]).run P w = (f t a fl (fl % 32)).run P w := by
  have h1 : ReflectliteValue.method z f #[v] = (ReflectliteValue.parts v >>= fun r => match r with | none => z | some (t, a, fl) => f t a fl (fl % 32)) := rfl
  rw [h1, Sem.run_bind, parts_some h hn]
  rfl

theorem set_run {x z : Value} {t t2 : TypeId} {a b : Addr} {f f2 : Nat} {cval : Value} {w' : World} (h : (ReflectliteValue.parts x).run P w = .ok (some (t, a, f)) w) (h2 : (ReflectliteValue.parts z).run P w = .ok (some (t2, b, f2)) w)
    (hf : (f / ReflectliteValue.flagAddr % 2 == 0) = false) (hl : (loadVar t2 b).run P w = .ok cval w) (hd : (Rtype.directlyAssignable t t2).run P w = .ok true w) (hs : (storeVar t a cval).run P w = .ok () w') :
    (ReflectliteValue.set #[x, z]).run P w = .ok (.tuple #[]) w' := by
  have h1 : ReflectliteValue.set #[x, z] = (ReflectliteValue.parts x >>= fun r1 => ReflectliteValue.parts z >>= fun r2 => match (r1, r2) with
      | (some (dst, a, fl), some (src, b, _)) => (do
        if fl / ReflectliteValue.flagAddr % 2 == 0 then unsupported (.noEntry "extern/(internal/reflectlite.Value).Set.unaddressable")
        let val ← loadVar src b
        if ← Rtype.directlyAssignable dst src then storeVar dst a val
        else if ← Rtype.implements dst src then
          if (← Rtype.kind src) == 20 then
            match val with
            | .nilIface => unsupported (.noEntry "extern/reflectlite: a nil value of one interface type handed on as a value of another")
            | _ => storeVar dst a val
          else storeVar dst a (.iface src val)
        else panicString ("reflectlite.Set: value of type " ++ (← Rtype.spelt src) ++ " is not assignable to type " ++ (← Rtype.spelt dst))
        pure (.tuple #[]))
      | _ => unsupported (.noEntry "extern/(internal/reflectlite.Value).Set.zeroValue")) := rfl
  rw [h1, Sem.run_bind, h, Result.andThen_ok, Sem.run_bind, h2, Result.andThen_ok]
  simp [hf, hl, hd, hs]

theorem mk_run {t : TypeId} {kd : Nat} {a : Addr} {fl : Nat} (h : peel P (Rtype.kind t) = some kd) (w : World) :
    (ReflectliteValue.mk t a fl).run P w = .ok (.agg #[.pointer (some ⟨P.globals.size, t, none⟩), .pointer (some a), .int .u64 (Int.ofNat (kd + 128 + fl))]) w := by
  have h1 := peel_run _ _ h w
  have h2 : (Rtype.handle t).run P w = .ok (.pointer (some ⟨P.globals.size, t, none⟩)) w := by
    simp [Rtype.handle, typeHandle]
  unfold ReflectliteValue.mk
  simp [Sem.run_bind, h1, h2, ReflectliteValue.flagIndir]

theorem val_vr {t : TypeId} {p : Pl} {ad : Addr} {f : Int} (hp : VR E (.ptr p) (.pointer (some ad))) :
    VR E (.agg 3 [.hnd P.globals.size t, .ptr p, .int .u64 f]) (.agg #[.pointer (some ⟨P.globals.size, t, none⟩), .pointer (some ad), .int .u64 f]) := by
  obtain ⟨cs, h1, h2⟩ := (show PR E (.ptr p) _ from hp)
  have h3 := h1.length
  simp only [sumLen, AV.flatLen, Nat.add_zero] at h3
  obtain ⟨c, rfl⟩ := List.length_eq_one_iff.1 h3
  have hc : c = .pointer (some ad) := by simpa [pack, AV.isAgg] using h2.symm
  subst hc
  have hf : FR E [.hnd P.globals.size t, .ptr p, .int .u64 f] [.pointer (some ⟨P.globals.size, t, none⟩), .pointer (some ad), .int .u64 f] :=
    .hnd (FR.append h1 (.int .nil))
  have := FR.agg (n := 3) hf rfl .nil
  exact VR.of_PR (v := .agg 3 _) ⟨_, this, by simp [pack, AV.isAgg]⟩

theorem isNil_run {u : AV} {c : Value} {b : Bool} (h : VR E u c) (hb : isNilAV u = some b) : (match c with | .chan none | .nilFunc | .nilIface | .map none | .pointer none | .slice none _ _ => (pure (.bool true) : Sem Value) | _ => pure (.bool false)) = pure (.bool b) := by
  cases u <;> simp only [isNilAV, Option.some.injEq, reduceCtorEq] at hb <;> subst hb
  · obtain ⟨cs, h1, rfl⟩ := (show PR E .nilp c from h)
    cases h1 with | nilp h1 => cases h1; rfl
  · obtain ⟨ad, rfl, _⟩ := PR.ptr_inv (show PR E (.ptr _) c from h)
    rfl
  · obtain ⟨b, o, c1, rfl, _⟩ := PR.iptr_inv (show PR E (.iptr _) c from h)
    rfl
  · obtain ⟨cs, h1, rfl⟩ := (show PR E .nils c from h)
    cases h1 with | nils h1 => cases h1; rfl
  · obtain ⟨cs, h1, rfl⟩ := (show PR E (.hnd _ _) c from h)
    cases h1 with | hnd h1 => cases h1; rfl

theorem loadVar_run {t : TypeId} {ad : Addr} {c : Value} (h : (Instr.loadAt t (.pointer (some ad))).run P w = .ok c w) : (loadVar t ad).run P w = .ok c w := by
  simpa [Instr.loadAt, Instr.sureAddr] using h

theorem extAV_ok {n0 : Nat} {k : Nat} {args : List AV} {v : AV} {H' : Heap} {e : Bool} (h : extAV P k args H = some (v, H', e)) (hs : Sim B E H w) (hn : n0 ≤ H.length) {cargs : List Value} (hl : args.length = cargs.length)
    (hv : ∀ (i : Nat) (v : AV) (c : Value), args[i]? = some v → cargs[i]? = some c → VR E v c) :
    ∃ c w' E', (rowOf k cargs.toArray).run P w = .ok c w' ∧ Res B n0 E H w v H' e E' w' c := by
  have one : ∀ {x : AV}, args = [x] → ∃ cx, cargs = [cx] ∧ VR E x cx := fun {x} hx => by
    subst hx
    match cargs, hl with
    | [cx], _ => exact ⟨cx, rfl, hv 0 x cx rfl rfl⟩
  unfold extAV at h
  split at h
  · -- TypeOf, nil
    obtain ⟨rfl, rfl, rfl⟩ := by simpa using h
    obtain ⟨cx, rfl, hx⟩ := one rfl
    obtain ⟨cs, h1, rfl⟩ := (show PR E .nili cx from hx)
    cases h1 with
    | nili h1 =>
    cases h1
    exact ⟨.nilIface, w, E, rfl, Res.same hs (VR.of_PR (v := .nili) ⟨_, .nili .nil, rfl⟩)⟩
  · rename_i t u
    simp only [Option.map_eq_some_iff, Prod.mk.injEq] at h
    obtain ⟨c, hc, rfl, rfl, rfl⟩ := h
    obtain ⟨cx, rfl, hx⟩ := one rfl
    obtain ⟨cu, rfl, _⟩ := PR.iface_inv (show PR E (.iface t u) cx from hx)
    exact ⟨c, w, E, peel_run _ _ hc w, Res.same hs (reabs_ok c)⟩
  · -- ValueOf
    rename_i t u
    split at h
    · rename_i hp
      simp only [Option.map_eq_some_iff, Prod.mk.injEq] at h
      obtain ⟨kd, hkd, rfl, rfl, rfl⟩ := h
      obtain ⟨cx, rfl, hx⟩ := one rfl
      obtain ⟨cu, rfl, hu⟩ := PR.iface_inv (show PR E (.iface t u) cx from hx)
      obtain ⟨h1, h2⟩ := newVar_ok (P := P) hs hn (t := t) hu.cells
      refine ⟨.agg #[.pointer (some ⟨P.globals.size, t, none⟩), .pointer (some ⟨w.heap.size, 0, none⟩), .int .u64 (Int.ofNat (kd + 128 + 0))], _, _, ?_, ⟨h2.sim, val_vr h2.val, h2.tr, h2.len, h2.sub⟩⟩
      show (do ReflectliteValue.mk t (← newVar t cu) 0 : Sem Value).run P w = _
      simp only [Sem.run_bind, h1, Result.andThen_ok]
      exact mk_run hkd _
    · simp at h
  · -- Type
    rename_i x
    simp only [Option.bind_eq_some_iff, Option.map_eq_some_iff, Prod.mk.injEq, Prod.exists] at h
    obtain ⟨t, p, f, hx, c, hc, rfl, rfl, rfl⟩ := h
    obtain ⟨cx, rfl, hxv⟩ := one rfl
    obtain ⟨ad, rfl, hp, hf⟩ := valOf_ok hxv hx
    refine ⟨c, w, E, ?_, Res.same hs (reabs_ok c)⟩
    simp only [rowOf]
    rw [methodAny_run (parts_run hf w)]
    exact peel_run _ _ hc w
  · -- IsNil
    rename_i x
    simp only [Option.bind_eq_some_iff, Prod.exists] at h
    obtain ⟨t, p, f, hx, _, hnp, h⟩ := h
    split at h
    · rename_i hk
      simp only [Option.bind_eq_some_iff, Option.map_eq_some_iff, Prod.mk.injEq] at h
      obtain ⟨u, hu, b, hb, rfl, rfl, rfl⟩ := h
      obtain ⟨cx, rfl, hxv⟩ := one rfl
      obtain ⟨ad, rfl, hp, hf⟩ := valOf_ok hxv hx
      obtain ⟨cu, k1, k2, _⟩ := load_ok hs hp hu
      have k3 := loadVar_run k1
      refine ⟨.bool b, w, E, ?_, Res.same hs VR.bool⟩
      have hnp' := peel_run _ _ hnp w
      simp only [rowOf]
      rw [method_run (parts_run hf w) hnp', hk]
      have h22 : ReflectliteValue.isNil t ad f 22 = (loadVar t ad >>= fun c => match c with | .chan none | .nilFunc | .nilIface | .map none | .pointer none | .slice none _ _ => (pure (.bool true) : Sem Value) | _ => pure (.bool false)) := rfl
      rw [h22, Sem.run_bind, k3, Result.andThen_ok, isNil_run (VR.of_PR k2) hb]
      rfl
    · simp at h
  · -- Elem
    rename_i x
    simp only [Option.bind_eq_some_iff, Prod.exists] at h
    obtain ⟨t, p, f, hx, _, hnp, h⟩ := h
    split at h
    · rename_i hk
      simp only [Option.bind_eq_some_iff] at h
      obtain ⟨u, hu, e', he', h⟩ := h
      obtain ⟨cx, rfl, hxv⟩ := one rfl
      obtain ⟨ad, rfl, hp, hf⟩ := valOf_ok hxv hx
      obtain ⟨cu, k1, k2, _⟩ := load_ok hs hp hu
      have k3 := loadVar_run k1
      have hnp' := peel_run _ _ hnp w
      have hel := peel_run _ _ he' w
      split at h
      · rename_i q e2
        simp only [Option.map_eq_some_iff, Prod.mk.injEq] at h
        obtain ⟨kd, hkd, rfl, rfl, rfl⟩ := h
        obtain ⟨ad2, rfl, _⟩ := PR.ptr_inv k2
        refine ⟨_, w, E, ?_, Res.same hs (val_vr (P := P) (VR.of_PR k2))⟩
        simp only [rowOf]
        rw [method_run (parts_run hf w) hnp', hk]
        have hm := mk_run (a := ad2) (fl := ReflectliteValue.flagAddr) hkd w
        have h22 : ReflectliteValue.elem t ad f 22 = (loadVar t ad >>= fun c => Rtype.elem? t >>= fun e => match (22 : Nat), c, e with
          | 20, i, _ => ReflectliteValue.unpack i
          | 22, .pointer none, _ => pure ReflectliteValue.zeroV
          | 22, .pointer (some p), some e => ReflectliteValue.mk e p ReflectliteValue.flagAddr
          | _, _, _ => ReflectliteValue.valueError "reflectlite.Value.Elem" 22) := rfl
        rw [h22, Sem.run_bind, k3, Result.andThen_ok, Sem.run_bind, hel, Result.andThen_ok]
        exact hm
      · simp at h
    · simp at h
  · -- Set
    rename_i x z
    simp only [Option.bind_eq_some_iff, Prod.exists] at h
    obtain ⟨t, p, f, hx, t2, p2, f2, hz, _, hnp, _, hnp2, h⟩ := h
    split at h
    · simp at h
    · rename_i hfl
      simp only [Option.bind_eq_some_iff] at h
      obtain ⟨val, hval, d, hd, h⟩ := h
      split at h
      · rename_i hdt
        subst hdt
        simp only [Option.map_eq_some_iff, Prod.mk.injEq] at h
        obtain ⟨H2, hst, rfl, rfl, rfl⟩ := h
        match cargs, hl with
        | [cx, cz], _ =>
        have hxv := hv 0 x cx rfl rfl
        have hzv := hv 1 z cz rfl rfl
        obtain ⟨ad, rfl, hp, hf⟩ := valOf_ok hxv hx
        obtain ⟨ad2, rfl, hp2, hf2⟩ := valOf_ok hzv hz
        obtain ⟨cval, k1, k2, _⟩ := load_ok hs hp2 hval
        have k3 := loadVar_run k1
        obtain ⟨w', k4, k5⟩ := store_ok (n0 := n0) hs hp (VR.of_PR k2) hst
        have k6 : (storeVar t ad cval).run P w = .ok () w' := by simpa [Instr.storeAt, Instr.sureAddr] using k4
        have hnp' := peel_run _ _ hnp w
        have hnp2' := peel_run _ _ hnp2 w
        have hd' := peel_run _ _ hd w
        have hfl' : (f / ReflectliteValue.flagAddr % 2 == 0) = false := by simpa [ReflectliteValue.flagAddr] using hfl
        refine ⟨.tuple #[], w', E, ?_, ⟨k5.sim, trivial, k5.tr, k5.len, fun he => k5.sub ?_⟩⟩
        · simp only [rowOf]
          exact set_run (parts_some (parts_run hf w) hnp') (parts_some (parts_run hf2 w) hnp2') hfl' k3 hd' k6
        · simp only [Bool.not_eq_false'] at he
          unfold storeFlag escapes
          split <;> simp [he]
      · simp at h
  all_goals first
    | (simp at h; done)
    | skip
  rename_i k' args' _ _ _ _ _ _ _ _ _ _ _ _ _
  simp only [Option.bind_eq_some_iff, Option.map_eq_some_iff, Prod.mk.injEq] at h
  obtain ⟨cs, hcs, c, hc, rfl, rfl, rfl⟩ := h
  have := concs_ok hl hv hcs
  subst this
  exact ⟨c, w, E, peel_run _ _ hc w, Res.same hs (reabs_ok c)⟩

theorem ext_ok {tab : List (Nat × Nat)} (hT : TabSound P tab) : ExtSound P B (extX P tab) := by
  intro f args H v H' e h n0 E w cargs hs hn hl hv
  unfold extX at h
  split at h
  · rename_i k hk
    have hm : (f, k) ∈ tab := by
      clear h
      induction tab with
      | nil => simp at hk
      | cons x l ih =>
        rw [List.lookup_cons] at hk
        split at hk
        · rename_i hx
          have hx' : f = x.1 := by simpa using hx
          obtain rfl := Option.some.inj hk
          rw [hx']
          exact List.mem_cons_self
        · exact List.mem_cons_of_mem _ (ih (fun y hy => hT y (List.mem_cons_of_mem _ hy)) hk)
    obtain ⟨fn, h1, h2, h3, h4, h5⟩ := hT (f, k) hm
    obtain ⟨c, w', E', k1, k2⟩ := extAV_ok (n0 := n0) h hs hn hl hv
    refine ⟨c, w', E', ?_, k2⟩
    rw [run_callFunc_extern h1 h2 h3 h4 h5, k1]
    rfl
  · simp at h

end
end Go.X
