/-
  Functions that only look: what the evaluator finds on what the arguments hold now, on its own memory, holds in any memory.
-/
import Derived.Test.YtiiddampachhlaaX34
namespace Go.X
open Go.RowKit (Below)

/-- What a value holds now. -/
def snapAV (H : Heap) : AV → Option AV
  | .sl p e n off len => (elemsAV H e (.sl p e n off len)).bind fun xs => if reflessL xs && decide (0 < e) then some (.isl e xs) else none
  | v => if v.refless then some v else none

def snapL (H : Heap) : List AV → Option (List AV)
  | [] => some []
  | v :: vs => (snapAV H v).bind fun x => (snapL H vs).map fun xs => x :: xs

mutual
/-- A value that says nothing of memory. -/
def AV.clean : AV → Bool
  | .int _ _ | .bool _ | .str _ | .nilp | .nils | .nilm | .nilf | .nili | .hnd _ _ => true
  | .agg _ ps => cleanL ps
  | .arr _ xs => cleanL xs
  | .iface _ v => v.clean
  | _ => false
def cleanL : List AV → Bool
  | [] => true
  | v :: vs => v.clean && cleanL vs
end

/-- Results. -/
def AV.cleanR : AV → Bool
  | .tuple vs => cleanL vs
  | v => v.clean

theorem FR.ofClean {E E' : Env} {vs : List AV} {cs : List Value} (h : FR E vs cs) : cleanL vs = true → FR E' vs cs := by
  induction h with
  | nil => intro _; exact .nil
  | int h ih => intro hc; exact .int (ih (by simpa [cleanL, AV.clean] using hc))
  | bool h ih => intro hc; exact .bool (ih (by simpa [cleanL, AV.clean] using hc))
  | str h ih => intro hc; exact .str (ih (by simpa [cleanL, AV.clean] using hc))
  | nilp h ih => intro hc; exact .nilp (ih (by simpa [cleanL, AV.clean] using hc))
  | nils h ih => intro hc; exact .nils (ih (by simpa [cleanL, AV.clean] using hc))
  | nilm h ih => intro hc; exact .nilm (ih (by simpa [cleanL, AV.clean] using hc))
  | nilf h ih => intro hc; exact .nilf (ih (by simpa [cleanL, AV.clean] using hc))
  | hnd h ih => intro hc; exact .hnd (ih (by simpa [cleanL, AV.clean] using hc))
  | nili h ih => intro hc; exact .nili (ih (by simpa [cleanL, AV.clean] using hc))
  | ptr h1 h2 h ih => intro hc; simp [cleanL, AV.clean] at hc
  | sl h1 h2 h3 hs h ih => intro hc; simp [cleanL, AV.clean] at hc
  | isl h1 h2 h3 h4 h5 h6 h ih1 ih => intro hc; simp [cleanL, AV.clean] at hc
  | iptr h1 h2 h3 h ih1 ih => intro hc; simp [cleanL, AV.clean] at hc
  | func h1 h2 h3 h ih1 ih2 ih => intro hc; simp [cleanL, AV.clean] at hc
  | iface h1 h ih1 ih =>
    intro hc
    simp only [cleanL, AV.clean, Bool.and_eq_true] at hc
    exact .iface (ih1 (by simp [cleanL, hc.1])) (ih hc.2)
  | agg h1 hn h ih1 ih =>
    intro hc
    simp only [cleanL, AV.clean, Bool.and_eq_true] at hc
    exact .agg (ih1 hc.1) hn (ih hc.2)
  | arr h1 hn h ih1 ih =>
    intro hc
    simp only [cleanL, AV.clean, Bool.and_eq_true] at hc
    exact .arr (ih1 hc.1) hn (ih hc.2)

theorem PR.ofClean {E E' : Env} {v : AV} {c : Value} (h : PR E v c) (hc : v.clean = true) : PR E' v c := by
  obtain ⟨cs, h1, h2⟩ := h
  exact ⟨cs, h1.ofClean (by simp [cleanL, hc]), h2⟩

theorem cleanL_mem : ∀ {vs : List AV} {v : AV}, cleanL vs = true → v ∈ vs → v.clean = true
  | x :: xs, v, h, hm => by
    simp only [cleanL, Bool.and_eq_true] at h
    rcases List.mem_cons.1 hm with rfl | hm
    · exact h.1
    · exact cleanL_mem h.2 hm

theorem VR.ofClean {E E' : Env} {v : AV} {c : Value} (h : VR E v c) (hc : v.cleanR = true) : VR E' v c := by
  cases v with
  | bad => simp [AV.cleanR, AV.clean] at hc
  | undf => simp [AV.cleanR, AV.clean] at hc
  | tuple vs =>
    obtain ⟨cvs, h1, h2, h3⟩ := h
    refine ⟨cvs, h1, h2, fun i v c hv hcv => ?_⟩
    have hcl := cleanL_mem (show cleanL vs = true from hc) (List.mem_of_getElem? hv)
    rcases h3 i v c hv hcv with rfl | hp
    · simp [AV.clean] at hcl
    · exact .inr (hp.ofClean hcl)
  | _ => exact PR.ofClean (show PR E _ c from h) hc

/-- Values without references, seen from the world alone. -/
theorem FR.toStart {B : Nat} {E : Env} {H : Heap} {w : World} (hs : Sim B E H w) {vs : List AV} {cs : List Value} (h : FR E vs cs) : reflessL vs = true → FR (Env.start w) vs cs := by
  induction h with
  | nil => intro _; exact .nil
  | int h ih => intro hc; exact .int (ih (by simpa [reflessL, AV.refless] using hc))
  | bool h ih => intro hc; exact .bool (ih (by simpa [reflessL, AV.refless] using hc))
  | str h ih => intro hc; exact .str (ih (by simpa [reflessL, AV.refless] using hc))
  | nilp h ih => intro hc; exact .nilp (ih (by simpa [reflessL, AV.refless] using hc))
  | nils h ih => intro hc; exact .nils (ih (by simpa [reflessL, AV.refless] using hc))
  | nilm h ih => intro hc; exact .nilm (ih (by simpa [reflessL, AV.refless] using hc))
  | nilf h ih => intro hc; exact .nilf (ih (by simpa [reflessL, AV.refless] using hc))
  | hnd h ih => intro hc; exact .hnd (ih (by simpa [reflessL, AV.refless] using hc))
  | nili h ih => intro hc; exact .nili (ih (by simpa [reflessL, AV.refless] using hc))
  | ptr h1 h2 h ih => intro hc; simp [reflessL, AV.refless] at hc
  | sl h1 h2 h3 hs h ih => intro hc; simp [reflessL, AV.refless] at hc
  | isl h1 h2 h3 h4 h5 h6 h ih1 ih =>
    intro hc
    exact .isl h1 (ih1 h1) h3 h4 (fun j c hc => hs.imm _ _ _ (h5 j c hc)) h6 (ih (by simpa [reflessL, AV.refless] using hc))
  | iptr h1 h2 h3 h ih1 ih =>
    intro hc
    exact .iptr h1 (ih1 (by simp [reflessL, h1])) (fun j c hc => hs.imm _ _ _ (h3 j c hc)) (ih (by simpa [reflessL, AV.refless] using hc))
  | func h1 h2 h3 h ih1 ih2 ih => intro hc; simp [reflessL, AV.refless] at hc
  | iface h1 h ih1 ih =>
    intro hc
    simp only [reflessL, AV.refless, Bool.and_eq_true] at hc
    exact .iface (ih1 (by simp [reflessL, hc.1])) (ih hc.2)
  | agg h1 hn h ih1 ih =>
    intro hc
    simp only [reflessL, AV.refless, Bool.and_eq_true] at hc
    exact .agg (ih1 hc.1) hn (ih hc.2)
  | arr h1 hn h ih1 ih =>
    intro hc
    simp only [reflessL, AV.refless, Bool.and_eq_true] at hc
    exact .arr (ih1 hc.1) hn (ih hc.2)

section
variable {P : Program} {B : Nat} {E : Env} {H : Heap} {w : World}

theorem snap_plain {H : Heap} {v : AV} (hns : ∀ p e n off len, v ≠ .sl p e n off len) : snapAV H v = if v.refless then some v else none := by
  cases v <;> first | rfl | exact absurd rfl (hns _ _ _ _ _)

theorem snap_ok (hs : Sim B E H w) {v x : AV} {c : Value} (hv : VR E v c) (h : snapAV H v = some x) : VR (Env.start w) x c := by
  by_cases hsl : ∃ p e n off len, v = .sl p e n off len
  · obtain ⟨p, e, n, off, len, rfl⟩ := hsl
    simp only [snapAV, Option.bind_eq_some_iff] at h
    obtain ⟨xs, hxs, h⟩ := h
    split at h
    · rename_i hr
      obtain rfl := Option.some.inj h
      simp only [Bool.and_eq_true, decide_eq_true_eq] at hr
      obtain ⟨a, cap, L, cells, rfl, hsp, hcap, hL, hfx, hex, hlx, _, hwh⟩ := sl_where hs (show PR E (.sl p e n off len) c from hv) hxs
      obtain ⟨ab, ao, as⟩ := a
      simp only at hsp
      subst hsp
      rw [← hlx]
      exact VR.of_PR (v := .isl _ _) ⟨[_], .isl hr.1 (hfx.toStart hs hr.1) hex (by omega) (fun j c hj => (hwh j c hj).2.2.2) (.inl rfl) .nil, rfl⟩
    · simp at h
  · rw [snap_plain (fun p e n off len he => hsl ⟨p, e, n, off, len, he⟩)] at h
    split at h
    · rename_i hr
      obtain rfl := Option.some.inj h
      have hp : PR E v c := by
        cases v with
        | bad => simp [AV.refless] at hr
        | undf => simp [AV.refless] at hr
        | tuple vs => simp [AV.refless] at hr
        | _ => exact hv
      obtain ⟨cs, h1, h2⟩ := hp
      exact VR.of_PR ⟨cs, h1.toStart hs (by simp [reflessL, hr]), h2⟩
    · simp at h

theorem snapL_ok (hs : Sim B E H w) : ∀ {args xs : List AV} {cargs : List Value}, snapL H args = some xs → args.length = cargs.length →
    (∀ (i : Nat) (v : AV) (c : Value), args[i]? = some v → cargs[i]? = some c → VR E v c) → xs.length = cargs.length ∧ ∀ (i : Nat) (v : AV) (c : Value), xs[i]? = some v → cargs[i]? = some c → VR (Env.start w) v c
  | [], xs, cargs, h, hl, hv => by
    obtain rfl := Option.some.inj h
    exact ⟨hl, by simp⟩
  | a :: args, xs, cargs, h, hl, hv => by
    simp only [snapL, Option.bind_eq_some_iff, Option.map_eq_some_iff] at h
    obtain ⟨x, hx, ys, hys, rfl⟩ := h
    cases cargs with
    | nil => simp at hl
    | cons c cs =>
      obtain ⟨k1, k2⟩ := snapL_ok hs hys (by simpa using hl) (fun i v c h1 h2 => hv (i + 1) v c (by simpa using h1) (by simpa using h2))
      refine ⟨by simp [k1], fun i v c' h1 h2 => ?_⟩
      cases i with
      | zero =>
        simp only [List.getElem?_cons_zero, Option.some.injEq] at h1 h2
        subst h1 h2
        exact snap_ok hs (hv 0 a c rfl rfl) hx
      | succ i => exact k2 i v c' (by simpa using h1) (by simpa using h2)

/-- Where nothing that was there is touched, the memory stands as it stood. -/
theorem Sim.stays (hs : Sim B E H w) {w' : World} (hb : Below w.heap.size w w') : Sim B E H w' := by
  refine ⟨hs.top, fun i bk hi => ?_, hs.dead, hs.apart, fun b o c hc => ?_, hs.immApart, hs.flat, Nat.le_trans hs.old hb.size⟩
  · obtain ⟨L, hL, ⟨⟨cs, h1, h2, h3⟩, h4, h5⟩, h6⟩ := hs.live i bk hi
    refine ⟨L, hL, ⟨⟨cs, h1, h2, fun j c hj => ?_⟩, h4, fun j hj => ?_⟩, h6⟩
    · have := h3 j c hj
      rw [hb.cell (p := ⟨L.b, L.base + j, none⟩) (World.block_lt_of_cell? w _ this)]
      exact this
    · obtain ⟨k1, k2⟩ := h5 j hj
      obtain ⟨c, hc⟩ := Option.isSome_iff_exists.1 k1
      have hlt : L.b < w.heap.size := World.block_lt_of_cell? w _ hc
      rw [hb.cell (p := ⟨L.b, L.base + j, none⟩) hlt, hb.frozen (p := ⟨L.b, L.base + j, none⟩) hlt]
      exact ⟨k1, k2⟩
  · have := hs.imm b o c hc
    rw [hb.cell (p := ⟨b, o, none⟩) (World.block_lt_of_cell? w _ this)]
    exact this

theorem Tr.stays (hs : Sim B E H w) {w' : World} {k : Nat} (hb : Below w.heap.size w w') : Tr B k E w E w' :=
  ⟨hb.mono hs.old, Evol.refl _ _, fun b o hlt _ => ⟨hb.cell (p := ⟨b, o, none⟩) hlt, hb.frozen (p := ⟨b, o, none⟩) hlt⟩, fun _ _ _ h => h, fun _ _ _ _ h => .inl h⟩

/-- The oracle of functions that only look. -/
def pureK (k : FuncId → List AV → Option AV) : Oracle := fun f args H => (snapL H args).bind fun xs => (k f xs).map fun v => (v, H, false)

theorem pure_sound {U : Out} {ann : FuncId → FAnn} {fuel n : Nat} {K : Oracle} {k : FuncId → List AV → Option AV} (hK : ∀ B, OracleSound P B U.G K) (hX : ∀ B, ExtSound P B U.X) (hm : P.follows .mixedOrders = true)
    (hA : ∀ f, funcOk P (ann f) f = true) (hk : ∀ f xs v, k f xs = some v → v.cleanR = true ∧ ∃ H' e, evalN P U ann fuel K n f xs [] = some (v, H', e)) (B : Nat) : OracleSound P B U.G (pureK k) := by
  intro f args H v H' e h E w cargs hs hG hl hv
  simp only [pureK, Option.bind_eq_some_iff, Option.map_eq_some_iff, Prod.mk.injEq] at h
  obtain ⟨xs, hxs, v', hv', rfl, rfl, rfl⟩ := h
  obtain ⟨hc, H1, e1, he⟩ := hk f xs v' hv'
  obtain ⟨k1, k2⟩ := snapL_ok hs hxs hl hv
  have hG' : GlobOk U.G (Env.start w) := fun g u hu => by
    obtain ⟨cs, h1, h2⟩ := (show PR E (.iptr u) _ from hG g u hu)
    refine VR.of_PR (v := .iptr u) ⟨cs, h1.toStart hs ?_, h2⟩
    cases h1 with
    | iptr h3 _ _ _ => simp [reflessL, AV.refless]
  refine (evalN_ok (hK w.heap.size) (hX _) hm hA n f xs [] v' H1 e1 he (Env.start w) w cargs (Sim.start w) hG' k1 k2).mono ?_
  rintro en w' ⟨c, E', rfl, hr⟩
  have hb := hr.tr.below
  exact ⟨c, E, rfl, ⟨hs.stays hb, hr.val.ofClean hc, Tr.stays hs hb, Nat.le_refl _, fun _ => Sub.refl _ _⟩⟩

/-- Two oracles, one after the other. -/
theorem orElse_sound {G : Nat → Option AV} {K1 K2 : Oracle} (h1 : OracleSound P B G K1) (h2 : OracleSound P B G K2) : OracleSound P B G (fun f args H => match K1 f args H with | some r => some r | none => K2 f args H) := by
  intro f args H v H' e h
  simp only at h
  split at h
  · rename_i r hr
    obtain rfl := Option.some.inj h
    exact h1 f args H v H' e hr
  · exact h2 f args H v H' e h

end

/-- What a table tells of functions that only look: where its test holds, the value. -/
abbrev Table := FuncId → Option (List AV → Option (Bool × AV))

def kOf (T : Table) : FuncId → List AV → Option AV := fun f xs => match T f with
  | some t => match t xs with
    | some (true, v) => some v
    | _ => none
  | none => none

section
variable {R : Type} (bot : R)

def snapVK (H : Heap) (v : AV) (k : AV → R) : R :=
  match v with
  | .sl p e n off len => elemsK bot H e (.sl p e n off len) fun xs => cond (reflessL xs && decide (0 < e)) (k (.isl e xs)) bot
  | v => cond v.refless (k v) bot

def snapLK (H : Heap) : List AV → (List AV → R) → R
  | [], k => k []
  | v :: vs, k => snapVK bot H v fun x => snapLK H vs fun xs => k (x :: xs)

theorem snapVK_le (H : Heap) (v : AV) (k : AV → R) : Le bot (snapVK bot H v k) ((snapAV H v).elim bot k) := by
  unfold snapVK
  split
  · rename_i p e n off len
    refine (elemsK_le bot _ _ _ _).trans bot ?_
    simp only [snapAV]
    cases elemsAV H e (.sl p e n off len) with
    | none => exact .inl rfl
    | some xs =>
      simp only [Option.elim_some, Option.bind_some]
      cases hc : (reflessL xs && decide (0 < e)) with
      | false => exact .inl rfl
      | true => right; simp
  · rename_i hn
    rw [snap_plain (fun p e n off len he => hn p e n off len he)]
    cases hc : v.refless with
    | false => exact .inl rfl
    | true => right; simp

theorem snapLK_le (H : Heap) : ∀ (vs : List AV) (k : List AV → R), Le bot (snapLK bot H vs k) ((snapL H vs).elim bot k)
  | [], k => .inr rfl
  | v :: vs, k => by
    unfold snapLK snapL
    refine (snapVK_le bot H v _).trans bot ?_
    cases snapAV H v with
    | none => exact .inl rfl
    | some x =>
      simp only [Option.elim_some, Option.bind_some]
      refine (snapLK_le H vs _).trans bot (.inr ?_)
      cases snapL H vs <;> rfl

/-- The evaluator handing on, with a table. -/
def evalTK (P : Program) (U : Out) (ann : FuncId → FAnn) (fuel : Nat) (T : Table) : Nat → OracleK R
  | 0 => fun _ _ _ _ => bot
  | n + 1 => fun f args H k => match T f with
    | some t => snapLK bot H args fun xs => match t xs with
      | some (b, v) => cond b (k v H false) bot
      | none => bot
    | none => evalFK bot true P U ann fuel (evalN P U ann fuel (pureK (kOf T)) n) (evalTK P U ann fuel T n) f args H k

theorem evalTK_le {P : Program} {U : Out} {ann : FuncId → FAnn} {fuel : Nat} {T : Table} : ∀ (n : Nat) (f : FuncId) (args : List AV) (H : Heap) (k : AV → Heap → Bool → R),
    Le bot (evalTK bot P U ann fuel T n f args H k) (KOf bot (evalN P U ann fuel (pureK (kOf T)) n) f args H k)
  | 0, f, args, H, k => .inl rfl
  | n + 1, f, args, H, k => by
    show Le bot (match T f with
      | some t => snapLK bot H args fun xs => match t xs with
        | some (b, v) => cond b (k v H false) bot
        | none => bot
      | none => evalFK bot true P U ann fuel (evalN P U ann fuel (pureK (kOf T)) n) (evalTK bot P U ann fuel T n) f args H k)
      ((match pureK (kOf T) f args H with | some r => some r | none => evalF P U ann fuel (evalN P U ann fuel (pureK (kOf T)) n) f args H).elim bot fun r => k r.1 r.2.1 r.2.2)
    cases hT : T f with
    | none =>
      have : pureK (kOf T) f args H = none := by
        unfold pureK kOf
        rw [hT]
        cases snapL H args <;> rfl
      rw [this]
      exact evalFK_le bot true (evalTK_le n) f args H k
    | some t =>
      refine (snapLK_le bot H args _).trans bot ?_
      cases hs : snapL H args with
      | none => exact .inl rfl
      | some xs =>
        simp only [Option.elim_some]
        cases ht : t xs with
        | none => exact .inl rfl
        | some r =>
          obtain ⟨b, v⟩ := r
          cases b
          · exact .inl rfl
          · right
            have : pureK (kOf T) f args H = some (v, H, false) := by
              unfold pureK kOf
              simp [hs, hT, ht]
            rw [this]
            rfl
end

theorem evalN_of_T {P : Program} {U : Out} {ann : FuncId → FAnn} {fuel n : Nat} {T : Table} {f : FuncId} {args : List AV} {H : Heap} {r : AV × Heap × Bool}
    (h : evalTK none P U ann fuel T n f args H (fun v H e => some (v, H, e)) = some r) : evalN P U ann fuel (pureK (kOf T)) n f args H = some r := by
  rcases evalTK_le (R := Option (AV × Heap × Bool)) none (P := P) (U := U) (ann := ann) (fuel := fuel) (T := T) n f args H (fun v H e => some (v, H, e)) with h1 | h1
  · rw [h] at h1; cases h1
  · rw [h] at h1
    unfold KOf at h1
    cases hx : evalN P U ann fuel (pureK (kOf T)) n f args H with
    | none => rw [hx] at h1; cases h1
    | some x => rw [hx] at h1; exact h1.symm

theorem run_of_trueT {P : Program} {U : Out} {ann : FuncId → FAnn} {fuel n : Nat} {T : Table} {f : FuncId} {args : List AV} {H : Heap}
    (h : evalTK false P U ann fuel T n f args H (fun v _ _ => v.isTrue) = true) : ∃ H' e, evalN P U ann fuel (pureK (kOf T)) n f args H = some (.bool true, H', e) := by
  rcases evalTK_le (R := Bool) false (P := P) (U := U) (ann := ann) (fuel := fuel) (T := T) n f args H (fun v _ _ => v.isTrue) with h1 | h1
  · rw [h] at h1; cases h1
  rw [h1] at h
  unfold KOf at h
  cases hx : evalN P U ann fuel (pureK (kOf T)) n f args H with
  | none => rw [hx] at h; simp at h
  | some r =>
    obtain ⟨v, H', e⟩ := r
    rw [hx] at h
    simp only [Option.elim_some] at h
    cases v <;> simp [AV.isTrue] at h
    subst h
    exact ⟨H', e, rfl⟩

/-- A table that is sound: each entry was found by the evaluator, with a sound table ahead. -/
structure FunTab (P : Program) (U : Out) (T : Table) : Prop where
  ok : ∀ B, OracleSound P B U.G (pureK (kOf T))

theorem FunTab.none {P : Program} {U : Out} : FunTab P U (fun _ => Option.none) := ⟨fun B f args H v H' e h => by
  unfold pureK kOf at h
  cases hx : snapL H args <;> simp [hx] at h⟩

/-- One function more, whatever way it was found. -/
theorem FunTab.addN {P : Program} {U : Out} {ann : FuncId → FAnn} {fuel n : Nat} {T : Table} (hT : FunTab P U T) (hX : ∀ B, ExtSound P B U.X) (hm : P.follows .mixedOrders = true) (hA : ∀ f, funcOk P (ann f) f = true)
    {g : FuncId} {t : List AV → Option (Bool × AV)} (h : ∀ xs v, t xs = some (true, v) → v.cleanR = true ∧ ∃ H' e, evalN P U ann fuel (pureK (kOf T)) n g xs [] = some (v, H', e)) :
    FunTab P U (fun f => if f = g then some t else T f) := by
  refine ⟨fun B => ?_⟩
  have h1 : OracleSound P B U.G (pureK fun f xs => if f = g then (match t xs with | some (true, v) => some v | _ => Option.none) else Option.none) :=
    pure_sound hT.ok hX hm hA (fun f xs v hv => by
      split at hv
      · rename_i hf
        subst hf
        split at hv
        · rename_i v' hv'
          obtain rfl := Option.some.inj hv
          exact h xs v' hv'
        · cases hv
      · cases hv) B
  intro f args H v H' e hx
  by_cases hf : f = g
  · refine h1 f args H v H' e ?_
    rw [← hx]
    unfold pureK kOf
    simp only [if_pos hf]
  · refine hT.ok B f args H v H' e ?_
    rw [← hx]
    unfold pureK kOf
    simp only [if_neg hf]

/-- One function more. -/
theorem FunTab.add {P : Program} {U : Out} {ann : FuncId → FAnn} {fuel n : Nat} {T : Table} (hT : FunTab P U T) (hX : ∀ B, ExtSound P B U.X) (hm : P.follows .mixedOrders = true) (hA : ∀ f, funcOk P (ann f) f = true)
    {g : FuncId} {t : List AV → Option (Bool × AV)} (h : ∀ xs v, t xs = some (true, v) → v.cleanR = true ∧ evalTK Option.none P U ann fuel T n g xs [] (fun v H e => some (v, H, e)) = some (v, [], false)) :
    FunTab P U (fun f => if f = g then some t else T f) :=
  hT.addN hX hm hA (fun xs v hv => ⟨(h xs v hv).1, [], false, evalN_of_T (h xs v hv).2⟩)

end Go.X
