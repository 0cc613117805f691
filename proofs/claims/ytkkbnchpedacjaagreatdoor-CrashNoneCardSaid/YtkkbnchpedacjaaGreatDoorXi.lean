/-
  Functions that only look: what the evaluator finds on what the arguments hold now, on its own memory, holds in any memory.
-/
import Derived.Test.YtkkbnchpedacjaaGreatDoorXh
import Derived.Laws.Bits64

namespace Go.X
open Go.RowKit (Below)

/-- What a value holds now. -/
def snapAV (H : Heap) : AV → Option AV
  | .sl p e n off len => (elemsAV H e (.sl p e n off len)).bind fun xs => if reflessL xs && decide (0 < e) then some (.isl e xs) else none
  | v => if v.refless then some v else none

def snapL (H : Heap) : List AV → Option (List AV)
  | [] => some []
  | v :: vs => (snapAV H v).bind fun x => (snapL H vs).map fun xs => x :: xs

mutual
/-- A value that says nothing of memory. -/
def AV.clean : AV → Bool
  | .int _ _ | .bool _ | .str _ | .nilp | .nils | .nilm | .nilf | .nili | .hnd _ _ => true
  | .agg _ ps => cleanL ps
  | .arr _ xs => cleanL xs
  | .iface _ v => v.clean
  | _ => false
def cleanL : List AV → Bool
  | [] => true
  | v :: vs => v.clean && cleanL vs
end

/-- Results. -/
def AV.cleanR : AV → Bool
  | .tuple vs => cleanL vs
  | v => v.clean

theorem FR.ofClean {E E' : Env} {vs : List AV} {cs : List Value} (h : FR E vs cs) : cleanL vs = true → FR E' vs cs := by
  induction h with
  | nil => intro _; exact .nil
  | int h ih => intro hc; exact .int (ih (by simpa [cleanL, AV.clean] using hc))
  | bool h ih => intro hc; exact .bool (ih (by simpa [cleanL, AV.clean] using hc))
  | str h ih => intro hc; exact .str (ih (by simpa [cleanL, AV.clean] using hc))
  | nilp h ih => intro hc; exact .nilp (ih (by simpa [cleanL, AV.clean] using hc))
  | nils h ih => intro hc; exact .nils (ih (by simpa [cleanL, AV.clean] using hc))
  | nilm h ih => intro hc; exact .nilm (ih (by simpa [cleanL, AV.clean] using hc))
  | nilf h ih => intro hc; exact .nilf (ih (by simpa [cleanL, AV.clean] using hc))
  | hnd h ih => intro hc; exact .hnd (ih (by simpa [cleanL, AV.clean] using hc))
  | nili h ih => intro hc; exact .nili (ih (by simpa [cleanL, AV.clean] using hc))
  | map h1 h2 h ih => intro hc; simp [cleanL, AV.clean] at hc
  | sptr h1 h2 h ih => intro hc; simp [cleanL, AV.clean] at hc
  | ptr h1 h2 h ih => intro hc; simp [cleanL, AV.clean] at hc
  | sl h1 h2 h3 hs h ih => intro hc; simp [cleanL, AV.clean] at hc
  | isl h1 h2 h3 h4 h5 h6 h ih1 ih => intro hc; simp [cleanL, AV.clean] at hc
  | iptr h1 h2 h3 h ih1 ih => intro hc; simp [cleanL, AV.clean] at hc
  | func h1 h2 h3 h ih1 ih2 ih => intro hc; simp [cleanL, AV.clean] at hc
  | iface h1 h ih1 ih =>
    intro hc
    simp only [cleanL, AV.clean, Bool.and_eq_true] at hc
    exact .iface (ih1 (by simp [cleanL, hc.1])) (ih hc.2)
  | agg h1 hn h ih1 ih =>
    intro hc
    simp only [cleanL, AV.clean, Bool.and_eq_true] at hc
    exact .agg (ih1 hc.1) hn (ih hc.2)
  | arr h1 hn h ih1 ih =>
    intro hc
    simp only [cleanL, AV.clean, Bool.and_eq_true] at hc
    exact .arr (ih1 hc.1) hn (ih hc.2)

theorem PR.ofClean {E E' : Env} {v : AV} {c : Value} (h : PR E v c) (hc : v.clean = true) : PR E' v c := by
  obtain ⟨cs, h1, h2⟩ := h
  exact ⟨cs, h1.ofClean (by simp [cleanL, hc]), h2⟩

theorem cleanL_mem : ∀ {vs : List AV} {v : AV}, cleanL vs = true → v ∈ vs → v.clean = true
  | x :: xs, v, h, hm => by
    simp only [cleanL, Bool.and_eq_true] at h
    rcases List.mem_cons.1 hm with rfl | hm
    · exact h.1
    · exact cleanL_mem h.2 hm

theorem VR.ofClean {E E' : Env} {v : AV} {c : Value} (h : VR E v c) (hc : v.cleanR = true) : VR E' v c := by
  cases v with
  | bad => simp [AV.cleanR, AV.clean] at hc
  | undf => simp [AV.cleanR, AV.clean] at hc
  | yld => simp [AV.cleanR, AV.clean] at hc
  | tuple vs =>
    obtain ⟨cvs, h1, h2, h3⟩ := h
    refine ⟨cvs, h1, h2, fun i v c hv hcv => ?_⟩
    have hcl := cleanL_mem (show cleanL vs = true from hc) (List.mem_of_getElem? hv)
    rcases h3 i v c hv hcv with rfl | hp
    · simp [AV.clean] at hcl
    · exact .inr (hp.ofClean hcl)
  | _ => exact PR.ofClean (show PR E _ c from h) hc

/-- Values without references, seen from the world alone. -/
theorem FR.toStart {B : Nat} {E : Env} {H : Heap} {w : World} (hs : Sim B E H w) {vs : List AV} {cs : List Value} (h : FR E vs cs) : reflessL vs = true → FR (Env.start w) vs cs := by
  induction h with
  | nil => intro _; exact .nil
  | int h ih => intro hc; exact .int (ih (by simpa [reflessL, AV.refless] using hc))
  | bool h ih => intro hc; exact .bool (ih (by simpa [reflessL, AV.refless] using hc))
  | str h ih => intro hc; exact .str (ih (by simpa [reflessL, AV.refless] using hc))
  | nilp h ih => intro hc; exact .nilp (ih (by simpa [reflessL, AV.refless] using hc))
  | nils h ih => intro hc; exact .nils (ih (by simpa [reflessL, AV.refless] using hc))
  | nilm h ih => intro hc; exact .nilm (ih (by simpa [reflessL, AV.refless] using hc))
  | nilf h ih => intro hc; exact .nilf (ih (by simpa [reflessL, AV.refless] using hc))
  | hnd h ih => intro hc; exact .hnd (ih (by simpa [reflessL, AV.refless] using hc))
  | nili h ih => intro hc; exact .nili (ih (by simpa [reflessL, AV.refless] using hc))
  | map h1 h2 h ih => intro hc; simp [reflessL, AV.refless] at hc
  | sptr h1 h2 h ih => intro hc; simp [reflessL, AV.refless] at hc
  | ptr h1 h2 h ih => intro hc; simp [reflessL, AV.refless] at hc
  | sl h1 h2 h3 hs h ih => intro hc; simp [reflessL, AV.refless] at hc
  | isl h1 h2 h3 h4 h5 h6 h ih1 ih =>
    intro hc
    exact .isl h1 (ih1 h1) h3 h4 (fun j c hc => hs.imm _ _ _ (h5 j c hc)) h6 (ih (by simpa [reflessL, AV.refless] using hc))
  | iptr h1 h2 h3 h ih1 ih =>
    intro hc
    exact .iptr h1 (ih1 (by simp [reflessL, h1])) (fun j c hc => hs.imm _ _ _ (h3 j c hc)) (ih (by simpa [reflessL, AV.refless] using hc))
  | func h1 h2 h3 h ih1 ih2 ih => intro hc; simp [reflessL, AV.refless] at hc
  | iface h1 h ih1 ih =>
    intro hc
    simp only [reflessL, AV.refless, Bool.and_eq_true] at hc
    exact .iface (ih1 (by simp [reflessL, hc.1])) (ih hc.2)
  | agg h1 hn h ih1 ih =>
    intro hc
    simp only [reflessL, AV.refless, Bool.and_eq_true] at hc
    exact .agg (ih1 hc.1) hn (ih hc.2)
  | arr h1 hn h ih1 ih =>
    intro hc
    simp only [reflessL, AV.refless, Bool.and_eq_true] at hc
    exact .arr (ih1 hc.1) hn (ih hc.2)

section
variable {P : Program} {B : Nat} {E : Env} {H : Heap} {w : World}

theorem snap_plain {H : Heap} {v : AV} (hns : ∀ p e n off len, v ≠ .sl p e n off len) : snapAV H v = if v.refless then some v else none := by
  cases v <;> first | rfl | exact absurd rfl (hns _ _ _ _ _)

theorem snap_ok (hs : Sim B E H w) {v x : AV} {c : Value} (hv : VR E v c) (h : snapAV H v = some x) : VR (Env.start w) x c := by
  by_cases hsl : ∃ p e n off len, v = .sl p e n off len
  · obtain ⟨p, e, n, off, len, rfl⟩ := hsl
    simp only [snapAV, Option.bind_eq_some_iff] at h
    obtain ⟨xs, hxs, h⟩ := h
    split at h
    · rename_i hr
      obtain rfl := Option.some.inj h
      simp only [Bool.and_eq_true, decide_eq_true_eq] at hr
      obtain ⟨a, cap, L, cells, rfl, hsp, hcap, hL, hfx, hex, hlx, _, hwh⟩ := sl_where hs (show PR E (.sl p e n off len) c from hv) hxs
      obtain ⟨ab, ao, as⟩ := a
      simp only at hsp
      subst hsp
      rw [← hlx]
      exact VR.of_PR (v := .isl _ _) ⟨[_], .isl hr.1 (hfx.toStart hs hr.1) hex (by omega) (fun j c hj => (hwh j c hj).2.2.2) (.inl rfl) .nil, rfl⟩
    · simp at h
  · rw [snap_plain (fun p e n off len he => hsl ⟨p, e, n, off, len, he⟩)] at h
    split at h
    · rename_i hr
      obtain rfl := Option.some.inj h
      have hp : PR E v c := by
        cases v with
        | bad => simp [AV.refless] at hr
        | undf => simp [AV.refless] at hr
        | yld => simp [AV.refless] at hr
        | tuple vs => simp [AV.refless] at hr
        | _ => exact hv
      obtain ⟨cs, h1, h2⟩ := hp
      exact VR.of_PR ⟨cs, h1.toStart hs (by simp [reflessL, hr]), h2⟩
    · simp at h

theorem snapL_ok (hs : Sim B E H w) : ∀ {args xs : List AV} {cargs : List Value}, snapL H args = some xs → args.length = cargs.length →
    (∀ (i : Nat) (v : AV) (c : Value), args[i]? = some v → cargs[i]? = some c → VR E v c) → xs.length = cargs.length ∧ ∀ (i : Nat) (v : AV) (c : Value), xs[i]? = some v → cargs[i]? = some c → VR (Env.start w) v c
  | [], xs, cargs, h, hl, hv => by
    obtain rfl := Option.some.inj h
    exact ⟨hl, by simp⟩
  | a :: args, xs, cargs, h, hl, hv => by
    simp only [snapL, Option.bind_eq_some_iff, Option.map_eq_some_iff] at h
    obtain ⟨x, hx, ys, hys, rfl⟩ := h
    cases cargs with
    | nil => simp at hl
    | cons c cs =>
      obtain ⟨k1, k2⟩ := snapL_ok hs hys (by simpa using hl) (fun i v c h1 h2 => hv (i + 1) v c (by simpa using h1) (by simpa using h2))
      refine ⟨by simp [k1], fun i v c' h1 h2 => ?_⟩
      cases i with
      | zero =>
        simp only [List.getElem?_cons_zero, Option.some.injEq] at h1 h2
        subst h1 h2
        exact snap_ok hs (hv 0 a c rfl rfl) hx
      | succ i => exact k2 i v c' (by simpa using h1) (by simpa using h2)

/-- Where nothing that was there is touched, the memory stands as it stood. -/
theorem Sim.stays (hs : Sim B E H w) {w' : World} (hb : Below w.heap.size w w') : Sim B E H w' := by
  refine ⟨hs.top, fun i bk hi => ?_, hs.dead, hs.apart, fun b o c hc => ?_, hs.immApart, hs.flat, Nat.le_trans hs.old hb.size, fun i es hi => ?_, hs.mdead, hs.mapart⟩
  · obtain ⟨L, hL, ⟨⟨cs, h1, h2, h3⟩, h4, h5⟩, h6⟩ := hs.live i bk hi
    refine ⟨L, hL, ⟨⟨cs, h1, h2, fun j c hj => ?_⟩, h4, fun j hj => ?_⟩, h6⟩
    · have := h3 j c hj
      rw [hb.cell (p := ⟨L.b, L.base + j, none⟩) (World.block_lt_of_cell? w _ this)]
      exact this
    · obtain ⟨k1, k2⟩ := h5 j hj
      obtain ⟨c, hc⟩ := Option.isSome_iff_exists.1 k1
      have hlt : L.b < w.heap.size := World.block_lt_of_cell? w _ hc
      rw [hb.cell (p := ⟨L.b, L.base + j, none⟩) hlt, hb.frozen (p := ⟨L.b, L.base + j, none⟩) hlt]
      exact ⟨k1, k2⟩
  · have := hs.imm b o c hc
    rw [hb.cell (p := ⟨b, o, none⟩) (World.block_lt_of_cell? w _ this)]
    exact this
  · obtain ⟨b, h1, ⟨vs, clock, h2, h3⟩, h4⟩ := hs.mlive i es hi
    refine ⟨b, h1, ⟨vs, clock, ?_, h3⟩, h4⟩
    rw [hb.block b (by
      rcases Nat.lt_or_ge b w.heap.size with h | h
      · exact h
      · rw [Array.getElem?_eq_none h] at h2; cases h2)]
    exact h2

theorem Tr.stays (hs : Sim B E H w) {w' : World} {k : Nat} (hb : Below w.heap.size w w') : Tr B k E w E w' :=
  ⟨hb.mono hs.old, Evol.refl _ _, fun b o hlt _ => ⟨hb.cell (p := ⟨b, o, none⟩) hlt, hb.frozen (p := ⟨b, o, none⟩) hlt⟩, fun _ _ _ h => h, fun _ _ _ _ h => .inl h, fun j o ho _ _ => by
    rw [hb.block j (by
      rcases Nat.lt_or_ge j w.heap.size with h | h
      · exact h
      · rw [Array.getElem?_eq_none h] at ho; cases ho)]
    exact ho, fun _ _ h => h⟩

/-- The oracle of functions that only look. -/
def pureK (k : FuncId → List AV → Option AV) : Oracle := fun f args H => (snapL H args).bind fun xs => (k f xs).map fun v => (v, H, false)

theorem pure_sound {U : Out} {ann : FuncId → FAnn} {fuel n : Nat} {K : Oracle} {k : FuncId → List AV → Option AV} (hK : ∀ B, OracleSound P B U.G K) (hX : ∀ B, ExtSound P B U.X) (hm : P.follows .mixedOrders = true)
    (hA : ∀ f, funcOk P (ann f) f = true) (hk : ∀ f xs v, k f xs = some v → v.cleanR = true ∧ ∃ H' e, evalN P U ann fuel K n f xs [] = some (v, H', e)) (B : Nat) : OracleSound P B U.G (pureK k) := by
  intro f args H v H' e h E w cargs hs hG hl hv
  simp only [pureK, Option.bind_eq_some_iff, Option.map_eq_some_iff, Prod.mk.injEq] at h
  obtain ⟨xs, hxs, v', hv', rfl, rfl, rfl⟩ := h
  obtain ⟨hc, H1, e1, he⟩ := hk f xs v' hv'
  obtain ⟨k1, k2⟩ := snapL_ok hs hxs hl hv
  have hG' : GlobOk U.G (Env.start w) := fun g u hu => by
    obtain ⟨cs, h1, h2⟩ := (show PR E (.iptr u) _ from hG g u hu)
    refine VR.of_PR (v := .iptr u) ⟨cs, h1.toStart hs ?_, h2⟩
    cases h1 with
    | iptr h3 _ _ _ => simp [reflessL, AV.refless]
  refine (evalN_ok (hK w.heap.size) (hX _) hm hA n f xs [] v' H1 e1 he (Env.start w) w cargs (Sim.start w) hG' k1 k2).mono ?_
  rintro en w' ⟨c, E', rfl, hr⟩
  have hb := hr.tr.below
  exact ⟨c, E, rfl, ⟨hs.stays hb, hr.val.ofClean hc, Tr.stays hs hb, Nat.le_refl _, fun _ => Sub.refl _ _⟩⟩

/-- Two oracles, one after the other. -/
theorem orElse_sound {G : Nat → Option AV} {K1 K2 : Oracle} (h1 : OracleSound P B G K1) (h2 : OracleSound P B G K2) : OracleSound P B G (fun f args H => match K1 f args H with | some r => some r | none => K2 f args H) := by
  intro f args H v H' e h
  simp only at h
  split at h
  · rename_i r hr
    obtain rfl := Option.some.inj h
    exact h1 f args H v H' e hr
  · exact h2 f args H v H' e h

end

/-- What a table tells of functions that only look: where its test holds, the value. -/
abbrev Table := FuncId → Option (List AV → Option (Bool × AV))

def kOf (T : Table) : FuncId → List AV → Option AV := fun f xs => match T f with
  | some t => match t xs with
    | some (true, v) => some v
    | _ => none
  | none => none

section
variable {R : Type} (bot : R)

def snapVK (H : Heap) (v : AV) (k : AV → R) : R :=
  match v with
  | .sl p e n off len => elemsK bot H e (.sl p e n off len) fun xs => cond (reflessL xs && decide (0 < e)) (k (.isl e xs)) bot
  | v => cond v.refless (k v) bot

def snapLK (H : Heap) : List AV → (List AV → R) → R
  | [], k => k []
  | v :: vs, k => snapVK bot H v fun x => snapLK H vs fun xs => k (x :: xs)

theorem snapVK_le (H : Heap) (v : AV) (k : AV → R) : Le bot (snapVK bot H v k) ((snapAV H v).elim bot k) := by
  unfold snapVK
  split
  · rename_i p e n off len
    refine (elemsK_le bot _ _ _ _).trans bot ?_
    simp only [snapAV]
    cases elemsAV H e (.sl p e n off len) with
    | none => exact .inl rfl
    | some xs =>
      simp only [Option.elim_some, Option.bind_some]
      cases hc : (reflessL xs && decide (0 < e)) with
      | false => exact .inl rfl
      | true => right; simp
  · rename_i hn
    rw [snap_plain (fun p e n off len he => hn p e n off len he)]
    cases hc : v.refless with
    | false => exact .inl rfl
    | true => right; simp

theorem snapLK_le (H : Heap) : ∀ (vs : List AV) (k : List AV → R), Le bot (snapLK bot H vs k) ((snapL H vs).elim bot k)
  | [], k => .inr rfl
  | v :: vs, k => by
    unfold snapLK snapL
    refine (snapVK_le bot H v _).trans bot ?_
    cases snapAV H v with
    | none => exact .inl rfl
    | some x =>
      simp only [Option.elim_some, Option.bind_some]
      refine (snapLK_le H vs _).trans bot (.inr ?_)
      cases snapL H vs <;> rfl

/-- The evaluator handing on, with a table. -/
def evalTK (P : Program) (U : Out) (ann : FuncId → FAnn) (fuel : Nat) (T : Table) : Nat → OracleK R
  | 0 => fun _ _ _ _ => bot
  | n + 1 => fun f args H k => match T f with
    | some t => snapLK bot H args fun xs => match t xs with
      | some (b, v) => cond b (k v H false) bot
      | none => bot
    | none => evalFK bot true P U ann fuel (evalN P U ann fuel (pureK (kOf T)) n) (evalTK P U ann fuel T n) f args H k

theorem evalTK_le {P : Program} {U : Out} {ann : FuncId → FAnn} {fuel : Nat} {T : Table} : ∀ (n : Nat) (f : FuncId) (args : List AV) (H : Heap) (k : AV → Heap → Bool → R),
    Le bot (evalTK bot P U ann fuel T n f args H k) (KOf bot (evalN P U ann fuel (pureK (kOf T)) n) f args H k)
  | 0, f, args, H, k => .inl rfl
  | n + 1, f, args, H, k => by
    show Le bot (match T f with
      | some t => snapLK bot H args fun xs => match t xs with
        | some (b, v) => cond b (k v H false) bot
        | none => bot
      | none => evalFK bot true P U ann fuel (evalN P U ann fuel (pureK (kOf T)) n) (evalTK bot P U ann fuel T n) f args H k)
      ((match pureK (kOf T) f args H with | some r => some r | none => evalF P U ann fuel (evalN P U ann fuel (pureK (kOf T)) n) f args H).elim bot fun r => k r.1 r.2.1 r.2.2)
    cases hT : T f with
    | none =>
      have : pureK (kOf T) f args H = none := by
        unfold pureK kOf
        rw [hT]
        cases snapL H args <;> rfl
      rw [this]
      exact evalFK_le bot true (evalTK_le n) f args H k
    | some t =>
      refine (snapLK_le bot H args _).trans bot ?_
      cases hs : snapL H args with
      | none => exact .inl rfl
      | some xs =>
        simp only [Option.elim_some]
        cases ht : t xs with
        | none => exact .inl rfl
        | some r =>
          obtain ⟨b, v⟩ := r
          cases b
          · exact .inl rfl
          · right
            have : pureK (kOf T) f args H = some (v, H, false) := by
              unfold pureK kOf
              simp [hs, hT, ht]
            rw [this]
            rfl
end

theorem evalN_of_T {P : Program} {U : Out} {ann : FuncId → FAnn} {fuel n : Nat} {T : Table} {f : FuncId} {args : List AV} {H : Heap} {r : AV × Heap × Bool}
    (h : evalTK none P U ann fuel T n f args H (fun v H e => some (v, H, e)) = some r) : evalN P U ann fuel (pureK (kOf T)) n f args H = some r := by
  rcases evalTK_le (R := Option (AV × Heap × Bool)) none (P := P) (U := U) (ann := ann) (fuel := fuel) (T := T) n f args H (fun v H e => some (v, H, e)) with h1 | h1
  · rw [h] at h1; cases h1
  · rw [h] at h1
    unfold KOf at h1
    cases hx : evalN P U ann fuel (pureK (kOf T)) n f args H with
    | none => rw [hx] at h1; cases h1
    | some x => rw [hx] at h1; exact h1.symm

theorem run_of_trueT {P : Program} {U : Out} {ann : FuncId → FAnn} {fuel n : Nat} {T : Table} {f : FuncId} {args : List AV} {H : Heap}
    (h : evalTK false P U ann fuel T n f args H (fun v _ _ => v.isTrue) = true) : ∃ H' e, evalN P U ann fuel (pureK (kOf T)) n f args H = some (.bool true, H', e) := by
  rcases evalTK_le (R := Bool) false (P := P) (U := U) (ann := ann) (fuel := fuel) (T := T) n f args H (fun v _ _ => v.isTrue) with h1 | h1
  · rw [h] at h1; cases h1
  rw [h1] at h
  unfold KOf at h
  cases hx : evalN P U ann fuel (pureK (kOf T)) n f args H with
  | none => rw [hx] at h; simp at h
  | some r =>
    obtain ⟨v, H', e⟩ := r
    rw [hx] at h
    simp only [Option.elim_some] at h
    cases v <;> simp [AV.isTrue] at h
    subst h
    exact ⟨H', e, rfl⟩

/-- A table that is sound: each entry was found by the evaluator, with a sound table ahead. -/
structure FunTab (P : Program) (U : Out) (T : Table) : Prop where
  ok : ∀ B, OracleSound P B U.G (pureK (kOf T))

theorem FunTab.none {P : Program} {U : Out} : FunTab P U (fun _ => Option.none) := ⟨fun B f args H v H' e h => by
  unfold pureK kOf at h
  cases hx : snapL H args <;> simp [hx] at h⟩

/-- One function more, whatever way it was found. -/
theorem FunTab.addN {P : Program} {U : Out} {ann : FuncId → FAnn} {fuel n : Nat} {T : Table} (hT : FunTab P U T) (hX : ∀ B, ExtSound P B U.X) (hm : P.follows .mixedOrders = true) (hA : ∀ f, funcOk P (ann f) f = true)
    {g : FuncId} {t : List AV → Option (Bool × AV)} (h : ∀ xs v, t xs = some (true, v) → v.cleanR = true ∧ ∃ H' e, evalN P U ann fuel (pureK (kOf T)) n g xs [] = some (v, H', e)) :
    FunTab P U (fun f => if f = g then some t else T f) := by
  refine ⟨fun B => ?_⟩
  have h1 : OracleSound P B U.G (pureK fun f xs => if f = g then (match t xs with | some (true, v) => some v | _ => Option.none) else Option.none) :=
    pure_sound hT.ok hX hm hA (fun f xs v hv => by
      split at hv
      · rename_i hf
        subst hf
        split at hv
        · rename_i v' hv'
          obtain rfl := Option.some.inj hv
          exact h xs v' hv'
        · cases hv
      · cases hv) B
  intro f args H v H' e hx
  by_cases hf : f = g
  · refine h1 f args H v H' e ?_
    rw [← hx]
    unfold pureK kOf
    simp only [if_pos hf]
  · refine hT.ok B f args H v H' e ?_
    rw [← hx]
    unfold pureK kOf
    simp only [if_neg hf]

/-- One function more. -/
theorem FunTab.add {P : Program} {U : Out} {ann : FuncId → FAnn} {fuel n : Nat} {T : Table} (hT : FunTab P U T) (hX : ∀ B, ExtSound P B U.X) (hm : P.follows .mixedOrders = true) (hA : ∀ f, funcOk P (ann f) f = true)
    {g : FuncId} {t : List AV → Option (Bool × AV)} (h : ∀ xs v, t xs = some (true, v) → v.cleanR = true ∧ evalTK Option.none P U ann fuel T n g xs [] (fun v H e => some (v, H, e)) = some (v, [], false)) :
    FunTab P U (fun f => if f = g then some t else T f) :=
  hT.addN hX hm hA (fun xs v hv => ⟨(h xs v hv).1, [], false, evalN_of_T (h xs v hv).2⟩)

end Go.X
/-
  The evaluator a third time, made light for the kernel: what hangs on the program's text alone is reckoned once, a closed term for each place of the text. Definitions; where it tells something, it is what the first one tells.
-/
namespace Go.X

/-! Quick words. -/
abbrev Env' := List (Nat × AV)

noncomputable def lookQ (l : Env') (t : Nat) : AV := List.rec AV.bad (fun x _ ih => Bool.rec ih x.2 (Nat.beq x.1 t)) l
noncomputable def updQ (l : Env') (t : Nat) (v : AV) : Env' := List.rec [] (fun x r ih => Bool.rec (x :: ih) ((t, v) :: r) (Nat.beq x.1 t)) l
noncomputable def nthQ {α : Type} (l : List α) : Nat → Option α := List.rec (fun _ => none) (fun x _ ih i => Bool.rec (ih (Nat.sub i 1)) (some x) (Nat.beq i 0)) l
noncomputable def lenQ {α : Type} (l : List α) : Nat := List.rec 0 (fun _ _ ih => Nat.add ih 1) l
noncomputable def setQ {α : Type} (l : List α) : Nat → α → List α := List.rec (fun _ _ => []) (fun x r ih i v => Bool.rec (x :: ih (Nat.sub i 1) v) (v :: r) (Nat.beq i 0)) l

theorem natBeq (a b : Nat) : Nat.beq a b = decide (a = b) := by
  cases h : Nat.beq a b with
  | true => simp [Nat.eq_of_beq_eq_true h]
  | false => simp [Nat.ne_of_beq_eq_false h]

theorem cond_beq {α : Type} (a b : Nat) (x y : α) : cond (Nat.beq a b) x y = if a = b then x else y := by
  rw [natBeq]
  by_cases h : a = b <;> simp [h]

theorem recB {α : Type} (b : Bool) (x y : α) : (Bool.rec y x b : α) = cond b x y := by cases b <;> rfl

theorem lookQ_eq : ∀ (l : Env') (t : Nat), lookQ l t = look l t
  | [], t => rfl
  | (k, v) :: r, t => by
    have := lookQ_eq r t
    show (Bool.rec (lookQ r t) v (Nat.beq k t) : AV) = _
    rw [recB, cond_beq, this]
    rfl
theorem updQ_eq : ∀ (l : Env') (t : Nat) (v : AV), updQ l t v = upd l t v
  | [], t, v => rfl
  | (k, u) :: r, t, v => by
    have := updQ_eq r t v
    show (Bool.rec ((k, u) :: updQ r t v) ((t, v) :: r) (Nat.beq k t) : Env') = _
    rw [recB, cond_beq, this]
    show _ = if k = t then (k, v) :: r else _
    by_cases h : k = t
    · subst h; simp
    · simp [h]
theorem nthQ_eq {α : Type} : ∀ (l : List α) (i : Nat), nthQ l i = l[i]?
  | [], i => rfl
  | x :: r, i => by
    show (Bool.rec (nthQ r (i - 1)) (some x) (Nat.beq i 0) : Option α) = _
    rw [recB, cond_beq, nthQ_eq r]
    cases i <;> simp
theorem lenQ_eq {α : Type} : ∀ (l : List α), lenQ l = l.length
  | [] => rfl
  | x :: r => by
    show lenQ r + 1 = _
    rw [lenQ_eq r]
    rfl
theorem setQ_eq {α : Type} : ∀ (l : List α) (i : Nat) (v : α), setQ l i v = l.set i v
  | [], i, v => rfl
  | x :: r, i, v => by
    show (Bool.rec (x :: setQ r (i - 1) v) (v :: r) (Nat.beq i 0) : List α) = _
    rw [recB, cond_beq, setQ_eq r]
    cases i <;> simp

def limQ : IntKind → Nat
  | .i8 => 128 | .u8 => 256 | .i16 => 32768 | .u16 => 65536 | .i32 => 2147483648 | .u32 => 4294967296 | .i64 => 9223372036854775808 | .u64 => 18446744073709551616

def wrapQ (k : IntKind) : Int → Int
  | .ofNat m => cond (Nat.ble (limQ k) m) (k.wrap (.ofNat m)) (.ofNat m)
  | .negSucc m => k.wrap (.negSucc m)

theorem wrapQ_eq (k : IntKind) (n : Int) : wrapQ k n = k.wrap n := by
  cases n with
  | negSucc m => rfl
  | ofNat m =>
    show cond (Nat.ble (limQ k) m) _ _ = _
    cases h : Nat.ble (limQ k) m with
    | true => rfl
    | false =>
      have h' : ¬ (limQ k ≤ m) := fun hle => by rw [Nat.ble_eq_true_of_le hle] at h; cases h
      show (m : Int) = k.wrap (m : Int)
      cases k <;> simp only [limQ] at h' <;> simp only [IntKind.wrap, IntKind.bits, IntKind.signed] <;> simp <;> omega

def eqQ : Int → Int → Bool
  | .ofNat m, .ofNat n => Nat.beq m n
  | .negSucc m, .negSucc n => Nat.beq m n
  | _, _ => false
def ltQ : Int → Int → Bool
  | .ofNat m, .ofNat n => Nat.ble (Nat.add m 1) n
  | .negSucc m, .negSucc n => Nat.ble (Nat.add n 1) m
  | .negSucc _, .ofNat _ => true
  | _, _ => false

theorem eqQ_eq (a b : Int) : eqQ a b = (a == b) := by
  cases a <;> cases b <;> simp only [eqQ]
  · rename_i m n
    rw [natBeq]
    by_cases h : m = n
    · subst h; simp
    · rw [decide_eq_false h]
      symm
      rw [beq_eq_false_iff_ne]
      intro e
      exact h (by injection e)
  · symm; rw [beq_eq_false_iff_ne]; intro e; cases e
  · symm; rw [beq_eq_false_iff_ne]; intro e; cases e
  · rename_i m n
    rw [natBeq]
    by_cases h : m = n
    · subst h; simp
    · rw [decide_eq_false h]
      symm
      rw [beq_eq_false_iff_ne]
      intro e
      exact h (by injection e)

theorem ltQ_eq (a b : Int) : ltQ a b = decide (a < b) := by
  rw [Bool.eq_iff_iff, decide_eq_true_iff]
  cases a <;> cases b <;> simp only [ltQ]
  · rename_i m n
    rw [Nat.ble_eq]
    show m + 1 ≤ n ↔ (m : Int) < (n : Int)
    omega
  · simp; rename_i m n; show (Int.negSucc n ≤ (m : Int)); omega
  · simp; rename_i m n; show (Int.negSucc m < (n : Int)); omega
  · rename_i m n
    rw [Nat.ble_eq]
    show n + 1 ≤ m ↔ _
    omega

/-- A term of the program's text alone, in a box: the kernel keeps what it comes to. -/
structure Bx (α : Type) where
  f : α

def Option.beqN : Option Nat → Nat → Bool
  | some a, b => Nat.beq a b
  | none, _ => false
def Option.beqB : Option Bool → Bool → Bool
  | some true, b => b
  | some false, b => !b
  | none, _ => false
theorem Option.beqN_eq (o : Option Nat) (b : Nat) : Option.beqN o b = decide (o = some b) := by
  cases o with
  | none => rfl
  | some a =>
    show Nat.beq a b = _
    rw [natBeq]
    by_cases h : a = b <;> simp [h]
theorem Option.beqB_eq (o : Option Bool) (b : Bool) : Option.beqB o b = decide (o = some b) := by
  cases o with
  | none => rfl
  | some a => cases a <;> cases b <;> rfl

/-! Switches, each one step of a recursor. -/
noncomputable def swInt {R : Type} (v : AV) (d : R) (f_int : IntKind → Int → R) : R := AV.rec (motive_1 := fun _ => R) (motive_2 := fun _ => Unit) d d d f_int (fun _ => d) (fun _ => d) d (fun _ => d) (fun _ _ => d) d (fun _ _ _ _ _ => d) (fun _ _ _ _ _ => d) (fun _ _ _ => d) d (fun _ => d) (fun _ _ _ _ _ => d) d (fun _ _ => d) (fun _ _ _ => d) d (fun _ _ _ => d) (fun _ _ _ => d) (fun _ _ => d) () (fun _ _ _ _ => ()) v
theorem swInt_eq {R : Type} (v : AV) (d : R) (f_int : IntKind → Int → R) : swInt v d f_int = match v with | .int x0 x1 => f_int x0 x1  | _ => d := by cases v <;> rfl
noncomputable def swBool {R : Type} (v : AV) (d : R) (f_bool : Bool → R) : R := AV.rec (motive_1 := fun _ => R) (motive_2 := fun _ => Unit) d d d (fun _ _ => d) f_bool (fun _ => d) d (fun _ => d) (fun _ _ => d) d (fun _ _ _ _ _ => d) (fun _ _ _ _ _ => d) (fun _ _ _ => d) d (fun _ => d) (fun _ _ _ _ _ => d) d (fun _ _ => d) (fun _ _ _ => d) d (fun _ _ _ => d) (fun _ _ _ => d) (fun _ _ => d) () (fun _ _ _ _ => ()) v
theorem swBool_eq {R : Type} (v : AV) (d : R) (f_bool : Bool → R) : swBool v d f_bool = match v with | .bool x0 => f_bool x0  | _ => d := by cases v <;> rfl
noncomputable def swBoolU {R : Type} (v : AV) (d : R) (f_bool : Bool → R) (f_undf : R) : R := AV.rec (motive_1 := fun _ => R) (motive_2 := fun _ => Unit) d f_undf d (fun _ _ => d) f_bool (fun _ => d) d (fun _ => d) (fun _ _ => d) d (fun _ _ _ _ _ => d) (fun _ _ _ _ _ => d) (fun _ _ _ => d) d (fun _ => d) (fun _ _ _ _ _ => d) d (fun _ _ => d) (fun _ _ _ => d) d (fun _ _ _ => d) (fun _ _ _ => d) (fun _ _ => d) () (fun _ _ _ _ => ()) v
theorem swBoolU_eq {R : Type} (v : AV) (d : R) (f_bool : Bool → R) (f_undf : R) : swBoolU v d f_bool f_undf = match v with | .bool x0 => f_bool x0 | .undf  => f_undf   | _ => d := by cases v <;> rfl
noncomputable def swPtr {R : Type} (v : AV) (d : R) (f_ptr : Pl → R) : R := AV.rec (motive_1 := fun _ => R) (motive_2 := fun _ => Unit) d d d (fun _ _ => d) (fun _ => d) (fun _ => d) d f_ptr (fun _ _ => d) d (fun _ _ _ _ _ => d) (fun _ _ _ _ _ => d) (fun _ _ _ => d) d (fun _ => d) (fun _ _ _ _ _ => d) d (fun _ _ => d) (fun _ _ _ => d) d (fun _ _ _ => d) (fun _ _ _ => d) (fun _ _ => d) () (fun _ _ _ _ => ()) v
theorem swPtr_eq {R : Type} (v : AV) (d : R) (f_ptr : Pl → R) : swPtr v d f_ptr = match v with | .ptr x0 => f_ptr x0  | _ => d := by cases v <;> rfl
noncomputable def swAgg {R : Type} (v : AV) (d : R) (f_agg : Nat → List AV → R) (f_arr : Nat → List AV → R) : R := AV.rec (motive_1 := fun _ => R) (motive_2 := fun _ => Unit) d d d (fun _ _ => d) (fun _ => d) (fun _ => d) d (fun _ => d) (fun _ _ => d) d (fun _ _ _ _ _ => d) (fun _ _ _ _ _ => d) (fun _ _ _ => d) d (fun _ => d) (fun _ _ _ _ _ => d) d (fun _ _ => d) (fun _ _ _ => d) d (fun x0 x1 _ => f_agg x0 x1) (fun x0 x1 _ => f_arr x0 x1) (fun _ _ => d) () (fun _ _ _ _ => ()) v
theorem swAgg_eq {R : Type} (v : AV) (d : R) (f_agg : Nat → List AV → R) (f_arr : Nat → List AV → R) : swAgg v d f_agg f_arr = match v with | .agg x0 x1 => f_agg x0 x1 | .arr x0 x1 => f_arr x0 x1  | _ => d := by cases v <;> rfl
noncomputable def swTup {R : Type} (v : AV) (d : R) (f_tuple : List AV → R) : R := AV.rec (motive_1 := fun _ => R) (motive_2 := fun _ => Unit) d d d (fun _ _ => d) (fun _ => d) (fun _ => d) d (fun _ => d) (fun _ _ => d) d (fun _ _ _ _ _ => d) (fun _ _ _ _ _ => d) (fun _ _ _ => d) d (fun _ => d) (fun _ _ _ _ _ => d) d (fun _ _ => d) (fun _ _ _ => d) d (fun _ _ _ => d) (fun _ _ _ => d) (fun x0 _ => f_tuple x0) () (fun _ _ _ _ => ()) v
theorem swTup_eq {R : Type} (v : AV) (d : R) (f_tuple : List AV → R) : swTup v d f_tuple = match v with | .tuple x0 => f_tuple x0  | _ => d := by cases v <;> rfl
noncomputable def swLen {R : Type} (v : AV) (d : R) (f_nils : R) (f_isl : Nat → List AV → R) (f_sl : Pl → Nat → Nat → Nat → Nat → R) : R := AV.rec (motive_1 := fun _ => R) (motive_2 := fun _ => Unit) d d d (fun _ _ => d) (fun _ => d) (fun _ => d) d (fun _ => d) (fun _ _ => d) f_nils f_sl (fun _ _ _ _ _ => d) (fun x0 x1 _ => f_isl x0 x1) d (fun _ => d) (fun _ _ _ _ _ => d) d (fun _ _ => d) (fun _ _ _ => d) d (fun _ _ _ => d) (fun _ _ _ => d) (fun _ _ => d) () (fun _ _ _ _ => ()) v
theorem swLen_eq {R : Type} (v : AV) (d : R) (f_nils : R) (f_isl : Nat → List AV → R) (f_sl : Pl → Nat → Nat → Nat → Nat → R) : swLen v d f_nils f_isl f_sl = match v with | .nils  => f_nils  | .isl x0 x1 => f_isl x0 x1 | .sl x0 x1 x2 x3 x4 => f_sl x0 x1 x2 x3 x4  | _ => d := by cases v <;> rfl
noncomputable def swNil {R : Type} (v : AV) (d : R) (s : R) : R := AV.rec (motive_1 := fun _ => R) (motive_2 := fun _ => Unit) d d d (fun _ _ => d) (fun _ => d) (fun _ => d) d (fun _ => s) (fun _ _ => s) d (fun _ _ _ _ _ => d) (fun _ _ _ _ _ => d) (fun _ _ _ => d) d (fun _ => d) (fun _ _ _ _ _ => d) d (fun _ _ => d) (fun _ _ _ => s) d (fun _ _ _ => d) (fun _ _ _ => d) (fun _ _ => d) () (fun _ _ _ _ => ()) v
theorem swNil_eq {R : Type} (v : AV) (d : R) (s : R) : swNil v d  s = match v with  | .ptr _ => s | .iptr _ => s | .iface _ _ => s | _ => d := by cases v <;> rfl
noncomputable def swIdx {R : Type} (v : AV) (d : R) (f_ptr : Pl → R) (f_iptr : AV → R) (f_sl : Pl → Nat → Nat → Nat → Nat → R) (f_isl : Nat → List AV → R) : R := AV.rec (motive_1 := fun _ => R) (motive_2 := fun _ => Unit) d d d (fun _ _ => d) (fun _ => d) (fun _ => d) d f_ptr (fun x0 _ => f_iptr x0) d f_sl (fun _ _ _ _ _ => d) (fun x0 x1 _ => f_isl x0 x1) d (fun _ => d) (fun _ _ _ _ _ => d) d (fun _ _ => d) (fun _ _ _ => d) d (fun _ _ _ => d) (fun _ _ _ => d) (fun _ _ => d) () (fun _ _ _ _ => ()) v
theorem swIdx_eq {R : Type} (v : AV) (d : R) (f_ptr : Pl → R) (f_iptr : AV → R) (f_sl : Pl → Nat → Nat → Nat → Nat → R) (f_isl : Nat → List AV → R) : swIdx v d f_ptr f_iptr f_sl f_isl = match v with | .ptr x0 => f_ptr x0 | .iptr x0 => f_iptr x0 | .sl x0 x1 x2 x3 x4 => f_sl x0 x1 x2 x3 x4 | .isl x0 x1 => f_isl x0 x1  | _ => d := by cases v <;> rfl
noncomputable def swFld {R : Type} (v : AV) (d : R) (f_ptr : Pl → R) (f_iptr : AV → R) : R := AV.rec (motive_1 := fun _ => R) (motive_2 := fun _ => Unit) d d d (fun _ _ => d) (fun _ => d) (fun _ => d) d f_ptr (fun x0 _ => f_iptr x0) d (fun _ _ _ _ _ => d) (fun _ _ _ _ _ => d) (fun _ _ _ => d) d (fun _ => d) (fun _ _ _ _ _ => d) d (fun _ _ => d) (fun _ _ _ => d) d (fun _ _ _ => d) (fun _ _ _ => d) (fun _ _ => d) () (fun _ _ _ _ => ()) v
theorem swFld_eq {R : Type} (v : AV) (d : R) (f_ptr : Pl → R) (f_iptr : AV → R) : swFld v d f_ptr f_iptr = match v with | .ptr x0 => f_ptr x0 | .iptr x0 => f_iptr x0  | _ => d := by cases v <;> rfl
noncomputable def swSz {R : Type} (v : AV) (d : R) (f_agg : Nat → List AV → R) (f_arr : Nat → List AV → R) (f_tuple : List AV → R) : R := AV.rec (motive_1 := fun _ => R) (motive_2 := fun _ => Unit) d d d (fun _ _ => d) (fun _ => d) (fun _ => d) d (fun _ => d) (fun _ _ => d) d (fun _ _ _ _ _ => d) (fun _ _ _ _ _ => d) (fun _ _ _ => d) d (fun _ => d) (fun _ _ _ _ _ => d) d (fun _ _ => d) (fun _ _ _ => d) d (fun x0 x1 _ => f_agg x0 x1) (fun x0 x1 _ => f_arr x0 x1) (fun x0 _ => f_tuple x0) () (fun _ _ _ _ => ()) v
theorem swSz_eq {R : Type} (v : AV) (d : R) (f_agg : Nat → List AV → R) (f_arr : Nat → List AV → R) (f_tuple : List AV → R) : swSz v d f_agg f_arr f_tuple = match v with | .agg x0 x1 => f_agg x0 x1 | .arr x0 x1 => f_arr x0 x1 | .tuple x0 => f_tuple x0  | _ => d := by cases v <;> rfl
noncomputable def swFlat {R : Type} (v : AV) (d : R) (f_agg : Nat → List AV → R) (f_arr : Nat → List AV → R) (s : R) : R := AV.rec (motive_1 := fun _ => R) (motive_2 := fun _ => Unit) d d d (fun _ _ => s) (fun _ => s) (fun _ => s) s (fun _ => d) (fun _ _ => d) s (fun _ _ _ _ _ => d) (fun _ _ _ _ _ => d) (fun _ _ _ => d) s (fun _ => d) (fun _ _ _ _ _ => d) s (fun _ _ => s) (fun _ _ _ => d) s (fun x0 x1 _ => f_agg x0 x1) (fun x0 x1 _ => f_arr x0 x1) (fun _ _ => d) () (fun _ _ _ _ => ()) v
theorem swFlat_eq {R : Type} (v : AV) (d : R) (f_agg : Nat → List AV → R) (f_arr : Nat → List AV → R) (s : R) : swFlat v d f_agg f_arr s = match v with | .agg x0 x1 => f_agg x0 x1 | .arr x0 x1 => f_arr x0 x1 | .int _ _ => s | .bool _ => s | .str _ => s | .nilp  => s | .nils  => s | .nilm  => s | .nilf  => s | .nili  => s | .hnd _ _ => s | _ => d := by cases v <;> rfl

noncomputable def optQ {α R : Type} (o : Option α) (d : R) (f : α → R) : R := Option.rec d f o
theorem optQ_eq {α R : Type} (o : Option α) (d : R) (f : α → R) : optQ o d f = o.elim d f := by cases o <;> rfl
noncomputable def ifQ {R : Type} (b : Bool) (x y : R) : R := Bool.rec y x b
theorem ifQ_eq {R : Type} (b : Bool) (x y : R) : ifQ b x y = cond b x y := by cases b <;> rfl

noncomputable def addQ (m n : Int) : Int := Int.rec (fun a => Int.rec (fun b => Int.ofNat (Nat.add a b)) (fun b => Int.add (.ofNat a) (.negSucc b)) n) (fun a => Int.add (.negSucc a) n) m
theorem addQ_eq (m n : Int) : addQ m n = m + n := by cases m <;> cases n <;> rfl

/-- How many cells a value has. -/
noncomputable def flQ (v : AV) : Nat := swSz v 1 (fun n _ => n) (fun e xs => Nat.mul e (lenQ xs)) (fun _ => 1)
theorem flQ_eq (v : AV) : flQ v = v.flatLen := by
  cases v <;> first | rfl | (simp only [flQ, swSz_eq, AV.flatLen, lenQ_eq]; rfl)

def scFit (P : Program) (t : TypeId) : Bool := Option.beqB (tagg P t) false && Option.beqN (tsize P t) 1
def scSize (P : Program) (t : TypeId) (n : Nat) : Bool := Option.beqN (tsize P t) n
def agFit (P : Program) (t : TypeId) (n : Nat) : Bool := Option.beqB (tagg P t) true && Option.beqN (tsize P t) n
/-- Is a value of a type's size and form? -/
noncomputable def fitQ (P : Program) (t : TypeId) (v : AV) : Bool := swSz v (scFit P t) (fun n _ => agFit P t n) (fun e xs => agFit P t (Nat.mul e (lenQ xs))) (fun _ => scFit P t)
theorem fitQ_iff (P : Program) (t : TypeId) (v : AV) : fitQ P t v = true ↔ tagg P t = some v.isAgg ∧ tsize P t = some v.flatLen := by
  cases v <;> simp only [fitQ, swSz_eq, scFit, agFit, Option.beqB_eq, Option.beqN_eq, AV.isAgg, AV.flatLen, lenQ_eq, Bool.and_eq_true, decide_eq_true_iff] <;> exact Iff.rfl

/-- A block's root: no map, of so many cells. -/
noncomputable def rootQ (v : AV) (g : Nat) : Bool := swSz v (Nat.beq 1 g) (fun n _ => Nat.beq n g) (fun e xs => Nat.beq (Nat.mul e (lenQ xs)) g) (fun _ => false)
theorem rootQ_iff (v : AV) (g : Nat) : rootQ v g = true ↔ v.isTup = false ∧ v.flatLen = g := by
  cases v <;> simp only [rootQ, swSz_eq, AV.isTup, AV.flatLen, lenQ_eq, natBeq, decide_eq_true_iff, true_and, false_and, Bool.false_eq_true, Bool.true_eq_false] <;> exact Iff.rfl

noncomputable def sumQ (l : List AV) : Nat → Nat := List.rec (fun _ => 0) (fun x _ ih i => Bool.rec (Nat.add (flQ x) (ih (Nat.sub i 1))) 0 (Nat.beq i 0)) l
theorem sumQ_eq : ∀ (l : List AV) (i : Nat), sumQ l i = sumLen (l.take i)
  | [], i => by simp [sumQ, sumLen]
  | x :: r, i => by
    show (Bool.rec (flQ x + sumQ r (i - 1)) 0 (Nat.beq i 0) : Nat) = _
    rw [recB, cond_beq, sumQ_eq r, flQ_eq]
    cases i <;> simp [sumLen]

noncomputable def blkQ (H : Heap) (i : Nat) : Option Blk := optQ (nthQ H i) none fun o => optQ o none fun b => ifQ b.root.isTup none (some b)
theorem blkQ_eq (H : Heap) (i : Nat) : blkQ H i = H.blk i := by
  unfold blkQ Heap.blk
  rw [nthQ_eq, optQ_eq]
  cases H[i]? with
  | none => rfl
  | some o => cases o with
    | none => rfl
    | some b =>
      simp only [Option.bind_some, id, blkOf, Option.elim_some, optQ_eq, ifQ_eq]
      cases b.root.isTup <;> rfl

section
variable {R : Type} (bot : R) (sym : Bool) (P : Program)

/-- The part that a way leads to. -/
noncomputable def atK (path : List Nat) : AV → Nat → (Nat → AV → R) → R := List.rec (fun v o k => k o v)
  (fun i _ ih v o k => swAgg v bot (fun _ ps => optQ (nthQ ps i) bot fun p => ih p (Nat.add o (sumQ ps i)) k)
    (fun e xs => optQ (nthQ xs i) bot fun p => ih p (Nat.add o (Nat.mul e i)) k)) path

/-- A part laid anew: where it lies, and the whole. -/
noncomputable def putPK (v : AV) (n : Nat) (path : List Nat) : AV → Nat → (Nat → AV → R) → R := List.rec (fun old o k => ifQ (Nat.beq (flQ old) n) (k o v) bot)
  (fun i _ ih old o k => swAgg old bot (fun n ps => optQ (nthQ ps i) bot fun p => ih p (Nat.add o (sumQ ps i)) fun o p' => k o (.agg n (setQ ps i p')))
    (fun e xs => optQ (nthQ xs i) bot fun p => ih p (Nat.add o (Nat.mul e i)) fun o p' => k o (.arr e (setQ xs i p')))) path

theorem atK_le : ∀ (path : List Nat) (v : AV) (o : Nat) (k : Nat → AV → R), Le bot (atK bot path v o k) ((v.at? path).elim bot fun x => k (o + x.1) x.2)
  | [], v, o, k => by
    have : v.at? [] = some (0, v) := by cases v <;> rfl
    rw [this]
    exact .inr rfl
  | i :: r, v, o, k => by
    show Le bot (swAgg v bot (fun _ ps => optQ (nthQ ps i) bot fun p => atK bot r p (Nat.add o (sumQ ps i)) k)
      (fun e xs => optQ (nthQ xs i) bot fun p => atK bot r p (Nat.add o (Nat.mul e i)) k)) _
    rw [swAgg_eq]
    cases v <;> try exact .inl rfl
    · rename_i n ps
      simp only [AV.at?, nthQ_eq, optQ_eq]
      cases ps[i]? with
      | none => exact .inl rfl
      | some p =>
        simp only [Option.elim_some, Option.bind_some]
        refine (atK_le r p _ k).trans bot (.inr ?_)
        cases p.at? r with
        | none => rfl
        | some x => simp [sumQ_eq, Nat.add_assoc]
    · rename_i e xs
      simp only [AV.at?, nthQ_eq, optQ_eq]
      cases xs[i]? with
      | none => exact .inl rfl
      | some p =>
        simp only [Option.elim_some, Option.bind_some]
        refine (atK_le r p _ k).trans bot (.inr ?_)
        cases p.at? r with
        | none => rfl
        | some x => simp [Nat.add_assoc]

theorem putPK_le {v : AV} {n : Nat} (hn : n = v.flatLen) : ∀ (path : List Nat) (old : AV) (o : Nat) (k : Nat → AV → R),
    Le bot (putPK bot v n path old o k) ((old.at? path).elim bot fun x => (old.put? path v).elim bot fun r => k (o + x.1) r)
  | [], old, o, k => by
    show Le bot (ifQ (Nat.beq (flQ old) n) (k o v) bot) _
    have h1 : old.put? [] v = if old.flatLen = v.flatLen then some v else none := by cases old <;> rfl
    have h2 : old.at? [] = some (0, old) := by cases old <;> rfl
    rw [h1, h2, ifQ_eq, cond_beq, flQ_eq, hn]
    simp only [Option.elim_some, Nat.add_zero]
    split
    · exact .inr rfl
    · exact .inl rfl
  | i :: r, old, o, k => by
    show Le bot (swAgg old bot (fun n' ps => optQ (nthQ ps i) bot fun p => putPK bot v n r p (Nat.add o (sumQ ps i)) fun o p' => k o (.agg n' (setQ ps i p')))
      (fun e xs => optQ (nthQ xs i) bot fun p => putPK bot v n r p (Nat.add o (Nat.mul e i)) fun o p' => k o (.arr e (setQ xs i p')))) _
    rw [swAgg_eq]
    cases old <;> try exact .inl rfl
    · rename_i n ps
      simp only [AV.at?, AV.put?, nthQ_eq, optQ_eq]
      cases ps[i]? with
      | none => exact .inl rfl
      | some p =>
        simp only [Option.elim_some, Option.bind_some]
        refine (putPK_le hn r p _ _).trans bot (.inr ?_)
        cases p.at? r with
        | none => rfl
        | some x => cases p.put? r v with
          | none => rfl
          | some y => simp [setQ_eq, sumQ_eq, Nat.add_assoc]
    · rename_i e xs
      simp only [AV.at?, AV.put?, nthQ_eq, optQ_eq]
      cases xs[i]? with
      | none => exact .inl rfl
      | some p =>
        simp only [Option.elim_some, Option.bind_some]
        refine (putPK_le hn r p _ _).trans bot (.inr ?_)
        cases p.at? r with
        | none => rfl
        | some x => cases p.put? r v with
          | none => rfl
          | some y => simp [setQ_eq, Nat.add_assoc]

/-- A block that a pointer leads to. -/
noncomputable def blockK (H : Heap) (p : Pl) (k : Blk → R) : R := optQ (nthQ H p.id) bot fun o => optQ o bot fun b => ifQ (rootQ b.root p.gen) (k b) bot
theorem blockK_le (H : Heap) (p : Pl) (k : Blk → R) : Le bot (blockK bot H p k) ((H.blk p.id).elim bot fun b => if b.root.flatLen = p.gen then k b else bot) := by
  unfold blockK Heap.blk
  rw [nthQ_eq, optQ_eq]
  cases H[p.id]? with
  | none => exact .inl rfl
  | some o => cases o with
    | none => exact .inl rfl
    | some b =>
      simp only [Option.bind_some, id, blkOf, Option.elim_some, optQ_eq, ifQ_eq]
      cases h : rootQ b.root p.gen with
      | false => exact .inl rfl
      | true =>
        obtain ⟨h1, h2⟩ := (rootQ_iff _ _).1 h
        right
        simp [h1, h2]

noncomputable def loadK (t : TypeId) (H : Heap) (a : AV) (k : AV → R) : R := swPtr a ((loadAV P H t a).elim bot k) fun p =>
  blockK bot H p fun b => atK bot p.path b.root 0 fun o v => ifQ (fitQ P t v) (ifQ (Nat.beq o p.coff) (k v) bot) bot

theorem loadK_le (t : TypeId) (H : Heap) (a : AV) (k : AV → R) : Le bot (loadK bot P t H a k) ((loadAV P H t a).elim bot k) := by
  unfold loadK
  rw [swPtr_eq]
  cases a <;> try exact .inr rfl
  rename_i p
  simp only [loadAV]
  refine (blockK_le bot H p _).trans bot ?_
  cases H.blk p.id with
  | none => exact .inl rfl
  | some b =>
    simp only [Option.elim_some, Option.bind_some]
    by_cases hg : b.root.flatLen = p.gen
    · rw [if_pos hg]
      refine (atK_le bot _ _ _ _).trans bot ?_
      cases b.root.at? p.path with
      | none => exact .inl rfl
      | some x =>
        simp only [Option.elim_some, Option.bind_some, Nat.zero_add, ifQ_eq]
        cases hc : fitQ P t x.2 with
        | false => exact .inl rfl
        | true =>
          have hc := (fitQ_iff _ _ _).1 hc
          simp only [cond_true, cond_beq]
          split
          · rename_i ho
            right
            simp [hg, ho, hc.1, hc.2]
          · exact .inl rfl
    · rw [if_neg hg]; exact .inl rfl

/-- No references: told quickly of numbers, three levels deep. -/
noncomputable def reflessG (g : List AV → Bool) (l : List AV) : Bool := List.rec true (fun x _ ih => swFlat x (x.refless && ih) (fun _ xs => g xs && ih) (fun _ xs => g xs && ih) ih) l
theorem reflessG_eq {g : List AV → Bool} (hg : ∀ l, g l = reflessL l) : ∀ (l : List AV), reflessG g l = reflessL l
  | [] => rfl
  | x :: r => by
    have unf : reflessG g (x :: r) = swFlat x (x.refless && reflessG g r) (fun _ xs => g xs && reflessG g r) (fun _ xs => g xs && reflessG g r) (reflessG g r) := rfl
    rw [unf, reflessL, swFlat_eq]
    cases x <;> simp [reflessG_eq hg r, AV.refless, hg]
noncomputable def reflessLQ : List AV → Bool := reflessG (reflessG (reflessG reflessL))
theorem reflessLQ_eq (l : List AV) : reflessLQ l = reflessL l := reflessG_eq (reflessG_eq (reflessG_eq fun _ => rfl)) l

theorem refs_of_refless_both : (∀ v : AV, v.refless = true → v.refs = []) ∧ ∀ l : List AV, reflessL l = true → refsL l = [] := by
  have key : ∀ v : AV, v.refless = true → v.refs = [] := by
    intro v
    induction v using AV.rec (motive_2 := fun l => reflessL l = true → refsL l = []) with
    | nil => rfl
    | cons x r h1 h2 =>
      rename_i h
      simp only [reflessL, Bool.and_eq_true] at h
      simp [refsL, h1 h.1, h2 h.2]
    | iface t v ih => intro h; simpa [AV.refs] using ih (by simpa [AV.refless] using h)
    | agg n ps ih => intro h; simpa [AV.refs] using ih (by simpa [AV.refless] using h)
    | arr e xs ih => intro h; simpa [AV.refs] using ih (by simpa [AV.refless] using h)
    | _ => intro h; first | rfl | (simp [AV.refless] at h)
  refine ⟨key, fun l => ?_⟩
  induction l with
  | nil => intro _; rfl
  | cons x r ih =>
    intro h
    simp only [reflessL, Bool.and_eq_true] at h
    simp [refsL, key x h.1, ih h.2]

/-- Which blocks a value leads to: quickly of numbers. -/
noncomputable def refsG (g : List AV → List Nat → List Nat) (l : List AV) (m : List Nat) : List Nat := List.rec m (fun x _ ih => swFlat x (x.refs ++ ih) (fun _ xs => ifQ (reflessLQ xs) ih (g xs ih)) (fun _ xs => ifQ (reflessLQ xs) ih (g xs ih)) ih) l
theorem refsG_eq {g : List AV → List Nat → List Nat} (hg : ∀ l m, g l m = refsL l ++ m) : ∀ (l : List AV) (m : List Nat), refsG g l m = refsL l ++ m
  | [], m => rfl
  | x :: r, m => by
    have unf : refsG g (x :: r) m = swFlat x (x.refs ++ refsG g r m) (fun _ xs => ifQ (reflessLQ xs) (refsG g r m) (g xs (refsG g r m))) (fun _ xs => ifQ (reflessLQ xs) (refsG g r m) (g xs (refsG g r m))) (refsG g r m) := rfl
    rw [unf, refsL, swFlat_eq]
    cases x <;> simp only [ifQ_eq, reflessLQ_eq, refsG_eq hg r m, AV.refs, hg, List.append_assoc, List.nil_append]
    · rename_i n ps
      cases h : reflessL ps with
      | true => simp [refs_of_refless_both.2 ps h]
      | false => rfl
    · rename_i n ps
      cases h : reflessL ps with
      | true => simp [refs_of_refless_both.2 ps h]
      | false => rfl
noncomputable def refsLQ : List AV → List Nat → List Nat := refsG (refsG (refsG fun l m => refsL l ++ m))
theorem refsLQ_eq (l : List AV) (m : List Nat) : refsLQ l m = refsL l ++ m := refsG_eq (refsG_eq (refsG_eq fun _ _ => rfl)) l m

def beqOne (g : List AV → List AV → Bool) (x y : AV) : Bool := match x with
  | .int a i => (match y with
    | .int b j => Nat.beq (limQ a) (limQ b) && eqQ i j
    | _ => false)
  | .arr n xs => (match y with
    | .arr m ys => Nat.beq n m && g xs ys
    | _ => false)
  | .agg n xs => (match y with
    | .agg m ys => Nat.beq n m && g xs ys
    | _ => false)
  | x => x.beq y
noncomputable def beqG (g : List AV → List AV → Bool) (l : List AV) : List AV → Bool := List.rec (fun m => match m with
    | [] => true
    | _ => false) (fun x _ ih m => match m with
    | [] => false
    | y :: r => cond (beqOne g x y) (ih r) false) l
theorem limQ_inj (a b : IntKind) : Nat.beq (limQ a) (limQ b) = (a == b) := by cases a <;> cases b <;> rfl
theorem natBeq' (a b : Nat) : Nat.beq a b = (a == b) := by
  rw [natBeq]
  by_cases h : a = b <;> simp [h]
theorem beqOne_eq {g : List AV → List AV → Bool} (hg : ∀ l m, g l m = beqL l m) (x y : AV) : beqOne g x y = x.beq y := by
  unfold beqOne
  split
  · cases y <;> simp [AV.beq, limQ_inj, eqQ_eq]
  · cases y <;> simp only [AV.beq, hg, natBeq']
  · cases y <;> simp only [AV.beq, hg, natBeq']
  · rfl
theorem beqG_eq {g : List AV → List AV → Bool} (hg : ∀ l m, g l m = beqL l m) : ∀ (l m : List AV), beqG g l m = beqL l m
  | [], [] => rfl
  | [], _ :: _ => rfl
  | _ :: _, [] => rfl
  | x :: r, y :: s => by
    have unf : beqG g (x :: r) (y :: s) = cond (beqOne g x y) (beqG g r s) false := rfl
    rw [unf, beqOne_eq hg, beqG_eq hg r s, beqL]
    cases x.beq y <;> rfl
noncomputable def beqLQ : List AV → List AV → Bool := beqG (beqG (beqG beqL))
theorem beqLQ_eq (l m : List AV) : beqLQ l m = beqL l m := beqG_eq (beqG_eq (beqG_eq fun _ _ => rfl)) l m

def ltb (i n : Nat) : Bool := Nat.ble (Nat.add i 1) n
theorem ltb_eq (i n : Nat) : ltb i n = decide (i < n) := by
  unfold ltb
  rw [Bool.eq_iff_iff, decide_eq_true_iff, Nat.ble_eq]
  exact Iff.rfl

/-- A store, its size and its references told. -/
noncomputable def storeAtK (H : Heap) (p : Pl) (v : AV) (n : Nat) (k : Blk → AV → Heap → R) : R :=
  blockK bot H p fun b => putPK bot v n p.path b.root 0 fun o r => ifQ (Nat.beq o p.coff) (k b r H) bot

theorem storeAtK_le {H : Heap} {p : Pl} {v : AV} {n : Nat} (hn : n = v.flatLen) (t : TypeId) (ht : tsize P t = some n) (hp : v.plain = true) (k : Heap → R) (fl : Blk → Bool) (hfl : ∀ b : Blk, fl b = (b.flat && v.refless)) :
    Le bot (storeAtK bot H p v n fun b r H => k (setQ H p.id (some ⟨r, b.grow, fl b⟩))) ((storeAV P H t (.ptr p) v).elim bot k) := by
  unfold storeAtK
  refine (blockK_le bot H p _).trans bot ?_
  simp only [storeAV]
  cases H.blk p.id with
  | none => exact .inl rfl
  | some b =>
    simp only [Option.elim_some, Option.bind_some]
    by_cases hg : b.root.flatLen = p.gen
    · rw [if_pos hg]
      refine (putPK_le bot hn _ _ _ _).trans bot ?_
      cases b.root.at? p.path with
      | none => exact .inl rfl
      | some x =>
        simp only [Option.elim_some, Option.bind_some, Nat.zero_add]
        cases b.root.put? p.path v with
        | none => exact .inl rfl
        | some r =>
          simp only [Option.elim_some, Option.bind_some, ifQ_eq, cond_beq]
          split
          · rename_i ho
            right
            rw [if_pos ⟨hg, ho, by rw [ht, hn], hp⟩, setQ_eq, hfl]
            rfl
          · exact .inl rfl
    · rw [if_neg hg]; exact .inl rfl

noncomputable def storeK (n0 : Nat) (t : TypeId) (H : Heap) (a v : AV) (k : Heap → Bool → R) : R := swPtr a bot fun p =>
  swFlat v (ifQ (scSize P t 1 && v.plain && Nat.beq v.flatLen 1) (storeAtK bot H p v 1 fun b r H => k (setQ H p.id (some ⟨r, b.grow, b.flat && v.refless⟩)) (ltb p.id n0 && !v.refless)) bot)
    (fun n ps => ifQ (scSize P t n) (storeAtK bot H p v n fun b r H => ifQ (reflessLQ ps) (k (setQ H p.id (some ⟨r, b.grow, b.flat⟩)) false) (k (setQ H p.id (some ⟨r, b.grow, false⟩)) (ltb p.id n0))) bot)
    (fun e xs => ifQ (scSize P t (Nat.mul e (lenQ xs))) (storeAtK bot H p v (Nat.mul e (lenQ xs)) fun b r H => ifQ (reflessLQ xs) (k (setQ H p.id (some ⟨r, b.grow, b.flat⟩)) false) (k (setQ H p.id (some ⟨r, b.grow, false⟩)) (ltb p.id n0))) bot)
    (ifQ (scSize P t 1) (storeAtK bot H p v 1 fun b r H => k (setQ H p.id (some ⟨r, b.grow, b.flat⟩)) false) bot)

theorem storeK_le (n0 : Nat) (t : TypeId) (H : Heap) (a v : AV) (k : Heap → Bool → R) : Le bot (storeK bot P n0 t H a v k) ((storeAV P H t a v).elim bot fun H' => k H' (storeFlag n0 a v)) := by
  unfold storeK
  rw [swPtr_eq]
  cases a <;> try exact .inl rfl
  rename_i p
  simp only [storeFlag, escapes]
  have key : ∀ (n : Nat) (r : Bool), n = v.flatLen → v.plain = true → v.refless = r → Le bot (ifQ (scSize P t n) (storeAtK bot H p v n fun b x H => k (setQ H p.id (some ⟨x, b.grow, b.flat && r⟩)) (ltb p.id n0 && !r)) bot)
      ((storeAV P H t (.ptr p) v).elim bot fun H' => k H' (decide (p.id < n0) && !v.refless)) := by
    intro n r hn hp hr
    rw [ifQ_eq, scSize, Option.beqN_eq]
    cases ht : decide (tsize P t = some n) with
    | false => exact .inl rfl
    | true =>
      simp only [decide_eq_true_eq] at ht
      have := storeAtK_le bot P (H := H) (p := p) hn t ht hp (fun H' => k H' (decide (p.id < n0) && !v.refless)) (fun b => b.flat && r) (fun b => by rw [hr])
      rw [ltb_eq]
      rw [hr] at this ⊢
      exact this
  have key2 : ∀ (n : Nat) (r : Bool), n = v.flatLen → v.plain = true → v.refless = r → Le bot (ifQ (scSize P t n) (storeAtK bot H p v n fun b x H => ifQ r (k (setQ H p.id (some ⟨x, b.grow, b.flat⟩)) false) (k (setQ H p.id (some ⟨x, b.grow, false⟩)) (ltb p.id n0))) bot)
      ((storeAV P H t (.ptr p) v).elim bot fun H' => k H' (decide (p.id < n0) && !v.refless)) := by
    intro n r hn hp hr
    refine .trans bot (.inr ?_) (key n r hn hp hr)
    congr 2
    funext b x H
    cases r <;> simp [ifQ_eq]
  rw [swFlat_eq]
  cases v with
  | agg n ps => exact key2 n _ rfl rfl (by simp [AV.refless, reflessLQ_eq])
  | arr e xs => exact key2 _ _ (by simp only [AV.flatLen, lenQ_eq]; rfl) rfl (by simp [AV.refless, reflessLQ_eq])
  | tuple vs => simp only [AV.plain, Bool.and_false, Bool.false_and, ifQ_eq, cond_false]; exact .inl rfl
  | bad => simp only [AV.plain, Bool.and_false, Bool.false_and, ifQ_eq, cond_false]; exact .inl rfl
  | undf => simp only [AV.plain, Bool.and_false, Bool.false_and, ifQ_eq, cond_false]; exact .inl rfl
  | yld => simp only [AV.plain, Bool.and_false, Bool.false_and, ifQ_eq, cond_false]; exact .inl rfl
  | _ =>
    refine .trans bot (.inr ?_) (key 1 _ rfl rfl rfl)
    simp [AV.plain, AV.flatLen, AV.refless]

end

end Go.X
/-
  The light evaluator: operations, each a closed term of the program's text, in a box.
-/
namespace Go.X

def kindQ (a b : IntKind) : Bool := Nat.beq (limQ a) (limQ b)
theorem kindQ_eq (a b : IntKind) : kindQ a b = decide (a = b) := by cases a <;> cases b <;> rfl

noncomputable def snocQ {α : Type} (l : List α) (x : α) : List α := List.rec [x] (fun y _ ih => y :: ih) l
theorem snocQ_eq {α : Type} : ∀ (l : List α) (x : α), snocQ l x = l ++ [x]
  | [], x => rfl
  | y :: r, x => by
    show y :: snocQ r x = _
    rw [snocQ_eq r]
    rfl

def toNatQ : Int → Nat
  | .ofNat m => m
  | .negSucc _ => 0
theorem toNatQ_eq (n : Int) : toNatQ n = n.toNat := by cases n <;> rfl

section
variable {R : Type} (bot : R) (sym : Bool) (P : Program) (U : Out) (A : FAnn)

/-- An index. -/
noncomputable def idxK (v : AV) (k : Nat → R) : R := swInt v bot fun _ n => ifQ (ltQ n 0) bot (k (toNatQ n))
theorem idxK_le (v : AV) (k : Nat → R) : Le bot (idxK bot v k) (v.idx.elim bot k) := by
  unfold idxK
  rw [swInt_eq]
  cases v <;> try exact .inl rfl
  rename_i kd n
  simp only [AV.idx, ltQ_eq, toNatQ_eq, ifQ_eq]
  by_cases h : n < 0
  · simp [h]; exact .inl rfl
  · have h' : 0 ≤ n := by omega
    simp [h, h']; exact .inr rfl

/-- What an operation does: one that leaves memory alone, and one that may not. -/
inductive OpC (R : Type) where
  | quiet (f : Env' → Env' → Heap → (AV → R) → R)
  | loud (f : Nat → OracleK R → Env' → Env' → Heap → (AV → Heap → Bool → R) → R)

noncomputable def opdQ : Operand → Bx (Env' → Env' → AV)
  | .tmp t => cond (A.exp.testBit t) ⟨fun L _ => lookQ L t⟩ ⟨fun _ T => lookQ T t⟩
  | .const v => ⟨fun _ _ => (absConst v).getD .bad⟩
  | .global _ => ⟨fun _ _ => .bad⟩
  | .func f => ⟨fun _ _ => .func (.func f) [] []⟩

theorem opdQ_eq (o : Operand) (L T : Env') (H : Heap) (e : Bool) : (opdQ A o).f L T = St.eval A ⟨L, T, H, e⟩ o := by
  cases o with
  | tmp t =>
    simp only [opdQ, St.eval, St.get]
    cases h : A.exp.testBit t <;> simp [lookQ_eq]
  | _ => rfl

noncomputable def argsQ (l : List Operand) : Bx (Env' → Env' → List AV) := List.rec ⟨fun _ _ => []⟩ (fun o _ ih => ⟨fun L T => (opdQ A o).f L T :: ih.f L T⟩) l
theorem argsQ_eq (L T : Env') (H : Heap) (e : Bool) : ∀ (l : List Operand), (argsQ A l).f L T = l.map (St.eval A ⟨L, T, H, e⟩)
  | [] => rfl
  | o :: r => by
    show (opdQ A o).f L T :: (argsQ A r).f L T = _
    rw [argsQ_eq L T H e r, opdQ_eq A o L T H e]
    rfl

/-- Two numbers. -/
noncomputable def intQ (o : BinOp) (t : TypeId) : Bx (IntKind → IntKind → Int → Int → (AV → R) → R) :=
  match o with
  | .add => ⟨fun a b m n k => ifQ (kindQ a b) (k (.int a (wrapQ a (addQ m n)))) bot⟩
  | .sub => ⟨fun a b m n k => ifQ (kindQ a b) (k (.int a (wrapQ a (Int.sub m n)))) bot⟩
  | .mul => ⟨fun a b m n k => ifQ (kindQ a b) (k (.int a (wrapQ a (Int.mul m n)))) bot⟩
  | .eql => ⟨fun a b m n k => ifQ (kindQ a b) (k (.bool (eqQ m n))) bot⟩
  | .neq => ⟨fun a b m n k => ifQ (kindQ a b) (k (.bool (not (eqQ m n)))) bot⟩
  | .lss => ⟨fun a b m n k => ifQ (kindQ a b) (k (.bool (ltQ m n))) bot⟩
  | .gtr => ⟨fun a b m n k => ifQ (kindQ a b) (k (.bool (ltQ n m))) bot⟩
  | .leq => ⟨fun a b m n k => ifQ (kindQ a b) (k (.bool (not (ltQ n m)))) bot⟩
  | .geq => ⟨fun a b m n k => ifQ (kindQ a b) (k (.bool (not (ltQ m n)))) bot⟩
  | o => ⟨fun a b m n k => (liftPure (binOp o t (.int a m) (.int b n))).elim bot k⟩

theorem intQ_le (o : BinOp) (t : TypeId) (a b : IntKind) (m n : Int) (k : AV → R) : Le bot ((intQ bot o t).f a b m n k) ((scalBin P o t (.int a m) (.int b n)).elim bot k) := by
  cases o <;> first
    | exact .inr rfl
    | (simp only [intQ, kindQ_eq, ifQ_eq]
       by_cases h : a = b
       · subst h
         right
         have e1 : (!decide (n < m)) = decide (m ≤ n) := by rw [Bool.eq_iff_iff]; simp
         have e2 : (!decide (m < n)) = decide (n ≤ m) := by rw [Bool.eq_iff_iff]; simp
         simp only [scalBin, binOp, Op.intArith, Op.intCmp, liftPure, wrapQ_eq, eqQ_eq, ltQ_eq, addQ_eq, e1, e2]
         simp
         try rfl
       · rw [decide_eq_false h]; exact .inl rfl)

noncomputable def binG (o : BinOp) (t : TypeId) (x y : Operand) (a b : AV) : Option AV := match a.scalar, b.scalar with
  | some cx, some cy => scalBin P o t cx cy
  | none, none => if a.isAgg && P.eqGuardType P.depth t then none else match o with
    | .eql => (eqNil P t x y a b).map .bool
    | .neq => (eqNil P t x y a b).map fun r => .bool !r
    | _ => none
  | _, _ => none

noncomputable def binK (o : BinOp) (t : TypeId) (x y : Operand) : Bx (AV → AV → (AV → R) → R) := match y with
  | .const (.int kb n) => ⟨fun a b k => swInt a ((binG P o t x (.const (.int kb n)) a b).elim bot k) fun ka m => (intQ bot o t).f ka kb m n k⟩
  | y => ⟨fun a b k => swInt a ((binG P o t x y a b).elim bot k) fun ka m => swInt b bot fun kb n => (intQ bot o t).f ka kb m n k⟩

noncomputable def lenK (v : AV) (k : AV → R) : R := swLen v bot (k (.int .i64 0)) (fun _ xs => k (.int .i64 (Int.ofNat xs.length))) (fun _ _ _ _ len => k (.int .i64 (Int.ofNat len)))

noncomputable def fieldQ (t : TypeId) (f : Nat) : Bx (AV → (AV → R) → R) := match fieldOf P t f with
  | some fl => ⟨fun x k => swAgg x bot (fun _ ps => optQ (nthQ ps f) bot fun p => ifQ (fitQ P fl.type p) (ifQ (Nat.beq (sumQ ps f) fl.offset) (k p) bot) bot) (fun _ _ => bot)⟩
  | none => ⟨fun _ _ => bot⟩

noncomputable def fieldAddrQ (t : TypeId) (f : Nat) : Bx (AV → (AV → R) → R) := match fieldOf P t f with
  | some fl => (match tsize P fl.type with
    | some sz => cond (Nat.beq sz 0) ⟨fun _ _ => bot⟩ ⟨fun x k => swFld x bot (fun p => k (.ptr ⟨p.id, Nat.add p.coff fl.offset, snocQ p.path f, p.gen⟩))
        (fun v => swAgg v bot (fun _ ps => optQ (nthQ ps f) bot fun q => ifQ (Nat.beq (sumQ ps f) fl.offset) (k (.iptr q)) bot) (fun _ _ => bot))⟩
    | none => ⟨fun _ _ => bot⟩)
  | none => ⟨fun _ _ => bot⟩

noncomputable def indexAddrQ (t : TypeId) : Bx (AV → AV → (AV → R) → R) := match P.underlying t with
  | some (.array n e) => (match tsize P e with
    | some sz => ⟨fun x i k => idxK bot i fun i => ifQ (ltb i n) (swFld x bot
        (fun p => k (.ptr ⟨p.id, Nat.add p.coff (Nat.mul i sz), snocQ p.path i, p.gen⟩))
        (fun v => swAgg v bot (fun _ _ => bot) (fun sz' xs => ifQ (Nat.beq sz sz') (optQ (nthQ xs i) bot fun v => k (.iptr v)) bot))) bot⟩
    | none => ⟨fun _ _ _ => bot⟩)
  | some (.slice e) => (match tsize P e with
    | some sz => ⟨fun x i k => idxK bot i fun i => swIdx x bot (fun _ => bot) (fun _ => bot)
        (fun p sz' _ off len => ifQ (ltb i len) (ifQ (Nat.beq sz sz') (k (.ptr ⟨p.id, Nat.add p.coff (Nat.mul (Nat.add off i) sz'), snocQ p.path (Nat.add off i), p.gen⟩)) bot) bot)
        (fun sz' xs => ifQ (Nat.beq sz sz') (cond sym (etaK bot P 4 e ((xs[i]?).getD .bad) fun v => k (.iptr v)) (optQ (nthQ xs i) bot fun v => k (.iptr v))) bot)⟩
    | none => ⟨fun _ _ _ => bot⟩)
  | _ => ⟨fun _ _ _ => bot⟩

/-- append -/
noncomputable def appendQ (argTypes : Array TypeId) : Bx (Nat → AV → AV → Heap → (AV → Heap → Bool → R) → R) := match argTypes[0]?, argTypes[1]? with
  | some t, some u => (match P.underlying t, P.underlying u with
    | some (.slice e), some d => cond (srcKind d) (match tsize P e with
      | some sz => ⟨fun n0 x y H k => cond (sym && isSl [x]) (elemsK bot H sz y fun xs => appK bot P H e x xs fun v H => k v H false)
          ((srcAV H sz y).elim bot fun xs => (if A.frz && !reflessL xs then freezeL n0 xs H else some (xs, H)).elim bot fun z => (appendAV P z.2 e x z.1).elim bot fun r => k r.1 r.2 (appendFlag n0 x z.1))⟩
      | none => ⟨fun _ _ _ _ _ => bot⟩) ⟨fun _ _ _ _ _ => bot⟩
    | _, _ => ⟨fun _ _ _ _ _ => bot⟩)
  | _, _ => ⟨fun _ _ _ _ _ => bot⟩

def ctxQ (n0 : Nat) : Ctx := ⟨P, fun _ _ _ => none, n0, 0, A, U, noY, noR⟩

noncomputable def builtinQ (b : Builtin) (argTypes : Array TypeId) : Bx (Nat → List AV → Heap → (AV → Heap → Bool → R) → R) :=
  match b with
  | .len => (match argTypes[0]? with
    | some t => (match P.underlying t with
      | some (.slice _) => ⟨fun _ args H k => match args with | [x] => lenK bot x fun v => k v H false | _ => bot⟩
      | _ => ⟨fun n0 args H k => (evalBuiltin (ctxQ P U A n0) b argTypes args ⟨[], [], H, false⟩).elim bot fun r => k r.1 r.2.1 r.2.2⟩)
    | none => ⟨fun _ _ _ _ => bot⟩)
  | .append => ⟨fun n0 args H k => match args with | [x, y] => (appendQ bot sym P A argTypes).f n0 x y H k | _ => bot⟩
  | b => ⟨fun n0 args H k => (evalBuiltin (ctxQ P U A n0) b argTypes args ⟨[], [], H, false⟩).elim bot fun r => k r.1 r.2.1 r.2.2⟩

/-- What is entered. -/
noncomputable def enterQ (f : FuncId) : Bx (OracleK R → List AV → Heap → (AV → Heap → Bool → R) → R) :=
  match P.funcs[f]? with
  | some fn => (match fn.body with
    | some _ => if fn.name ≠ "runtime.NumGoroutine" then ⟨fun KK args H k => KK f args H k⟩ else ⟨fun _ _ _ _ => bot⟩
    | none => ⟨fun _ args H k => (U.X f args H).elim bot fun r => k r.1 r.2.1 r.2.2⟩)
  | none => ⟨fun _ _ _ _ => bot⟩

noncomputable def callQ (c : Call) : OpC R := match c.callee with
  | .builtin b => .loud fun n0 _ L T H k => (builtinQ bot sym P U A b c.argTypes).f n0 ((argsQ A c.args.toList).f L T) H k
  | .value (.func f) => .loud fun _ KK L T H k => (enterQ bot P U f).f KK ((argsQ A c.args.toList).f L T) H k
  | .value f => .loud fun _ KK L T H k => (calleeAV P ((opdQ A f).f L T) ((argsQ A c.args.toList).f L T)).elim bot fun x => (enterQ bot P U x.1).f KK x.2 H k
  | .invoke r m => .loud fun _ KK L T H k => (methodAV P ((opdQ A r).f L T) m).elim bot fun x => (enterQ bot P U x.1).f KK (x.2 :: (argsQ A c.args.toList).f L T) H k

/-- Operations that are looked up as they are. -/
noncomputable def plainQ (op : Op) (t : TypeId) : OpC R := .loud fun n0 _ L T H k => (evalOp (ctxQ P U A n0) ⟨L, T, H, false⟩ op t).elim bot fun r => k r.1 r.2.1 r.2.2

noncomputable def opQ (op : Op) (type : TypeId) : OpC R :=
  match op with
  | .move x | .assign x => .quiet fun L T _ k => k ((opdQ A x).f L T)
  | .pick c a b => .quiet fun L T _ k => swBool ((opdQ A c).f L T) bot fun t => ifQ t (k ((opdQ A a).f L T)) (k ((opdQ A b).f L T))
  | .alloc t => (match zeroAV P t with
    | some z => .loud fun _ _ _ _ H k => k (.ptr ⟨lenQ H, 0, [], z.flatLen⟩) (snocQ H (some ⟨z, false, z.refless⟩)) false
    | none => .quiet fun _ _ _ _ => bot)
  | .load t (.global g) => .quiet fun _ _ _ k => ((U.G g).bind fun v => loadAV P [] t (.iptr v)).elim bot k
  | .load t a => .quiet fun L T H k => loadK bot P t H ((opdQ A a).f L T) k
  | .store t a x => .loud fun n0 _ L T H k => storeK bot P n0 t H ((opdQ A a).f L T) ((opdQ A x).f L T) fun H' e => k .bad H' e
  | .nilCheck x => .quiet fun L T _ k => swNil ((opdQ A x).f L T) (match (opdQ A x).f L T with
    | .func (.func f) a b => k (.func (.func f) a b)
    | _ => bot) (k ((opdQ A x).f L T))
  | .binOp o t x y _ => .quiet fun L T _ k => (binK bot P o t x y).f ((opdQ A x).f L T) ((opdQ A y).f L T) k
  | .fieldAddr t x f => .quiet fun L T _ k => (fieldAddrQ bot P t f).f ((opdQ A x).f L T) k
  | .field t x f => .quiet fun L T _ k => (fieldQ bot P t f).f ((opdQ A x).f L T) k
  | .indexAddr t x i => .quiet fun L T _ k => (indexAddrQ bot sym P t).f ((opdQ A x).f L T) ((opdQ A i).f L T) k
  | .extract t i => .quiet fun L T _ k => swTup ((opdQ A t).f L T) bot fun vs => optQ (nthQ vs i) bot k
  | .slice t x lo hi none => .quiet fun L T H k => (sliceAV P H t ((opdQ A x).f L T) (lo.map fun o => (opdQ A o).f L T) (hi.map fun o => (opdQ A o).f L T)).elim bot k
  | .convert src dst x => .loud fun _ _ L T H k => (convertAV P H src dst ((opdQ A x).f L T)).elim bot fun r => k r.1 r.2 false
  | .build t parts => .quiet fun L T _ k => (buildAV P t (parts.toList.map fun x => (x.1, (opdQ A x.2).f L T))).elim bot k
  | .index t x i => .quiet fun L T _ k => (indexAV P t ((opdQ A x).f L T) ((opdQ A i).f L T)).elim bot k
  | .typeAssert x _ asserted ok => .quiet fun L T _ k => (typeAssertAV P ((opdQ A x).f L T) asserted ok).elim bot k
  | .call c => callQ bot sym P U A c
  | op => plainQ bot P U A op type

/-! Where it tells something, it is the same. -/
/-- What is asked of an operation's text. -/
def OpC.ok (C : Ctx) (op : Op) (t : TypeId) : OpC R → Prop
  | .quiet f => ∀ L T H e (k : AV → Heap → Bool → R), Le bot (f L T H fun v => k v H false) ((evalOp C ⟨L, T, H, e⟩ op t).elim bot fun r => k r.1 r.2.1 r.2.2)
  | .loud f => ∀ KK L T H e (k : AV → Heap → Bool → R), (∀ f args H k, Le bot (KK f args H k) (KOf bot C.K f args H k)) →
      Le bot (f C.n0 KK L T H k) ((evalOp C ⟨L, T, H, e⟩ op t).elim bot fun r => k r.1 r.2.1 r.2.2)

theorem evalBuiltin_ctx {C : Ctx} (hP : C.P = P) (hA : C.A = A) (b : Builtin) (argTypes : Array TypeId) (args : List AV) (L T : Env') (H : Heap) (e : Bool) :
    evalBuiltin (ctxQ P U A C.n0) b argTypes args ⟨[], [], H, false⟩ = evalBuiltin C b argTypes args ⟨L, T, H, e⟩ := by
  subst hP hA
  rfl

theorem binG_eq {C : Ctx} (hP : C.P = P) (hA : C.A = A) (o : BinOp) (t u : TypeId) (x y : Operand) (L T : Env') (H : Heap) (e : Bool) (ty : TypeId) :
    evalOp C ⟨L, T, H, e⟩ (.binOp o t x y u) ty = (binG P o t x y (St.eval A ⟨L, T, H, e⟩ x) (St.eval A ⟨L, T, H, e⟩ y)).map fun v => (v, H, false) := by
  subst hP hA
  unfold evalOp binG
  simp only
  cases (St.eval C.A ⟨L, T, H, e⟩ x).scalar <;> cases (St.eval C.A ⟨L, T, H, e⟩ y).scalar <;> simp only [Option.map_none]
  split
  · rfl
  · cases o <;> rfl

theorem binG_int (o : BinOp) (t : TypeId) (x y : Operand) (ka kb : IntKind) (m n : Int) : binG P o t x y (.int ka m) (.int kb n) = scalBin P o t (.int ka m) (.int kb n) := rfl

theorem binK_le {C : Ctx} (hP : C.P = P) (hA : C.A = A) (o : BinOp) (t u : TypeId) (x y : Operand) (L T : Env') (H : Heap) (e : Bool) (ty : TypeId) (k : AV → Heap → Bool → R) :
    Le bot ((binK bot P o t x y).f ((opdQ A x).f L T) ((opdQ A y).f L T) fun v => k v H false) ((evalOp C ⟨L, T, H, e⟩ (.binOp o t x y u) ty).elim bot fun r => k r.1 r.2.1 r.2.2) := by
  rw [binG_eq P A hP hA, opdQ_eq A x L T H e, opdQ_eq A y L T H e]
  have hmap : ∀ w : Option AV, (w.map fun v => (v, H, false)).elim bot (fun r => k r.1 r.2.1 r.2.2) = w.elim bot fun v => k v H false := fun w => by cases w <;> rfl
  rw [hmap]
  unfold binK
  split
  · rename_i kb n
    dsimp only
    rw [swInt_eq]
    generalize St.eval A ⟨L, T, H, e⟩ x = a
    cases a <;> try exact .inr rfl
    exact intQ_le bot P o t _ kb _ n _
  · dsimp only
    rw [swInt_eq]
    generalize St.eval A ⟨L, T, H, e⟩ x = a
    generalize St.eval A ⟨L, T, H, e⟩ y = b
    cases a <;> try exact .inr rfl
    simp only [swInt_eq]
    cases b <;> try exact .inl rfl
    exact intQ_le bot P o t _ _ _ _ _

theorem fieldQ_le (t : TypeId) (f : Nat) (x : AV) (k : AV → R) : Le bot ((fieldQ bot P t f).f x k) ((fieldAV P t x f).elim bot k) := by
  unfold fieldQ fieldAV
  cases hf : fieldOf P t f with
  | none => exact .inl rfl
  | some fl =>
    dsimp only
    rw [swAgg_eq]
    cases x <;> try exact .inl rfl
    rename_i n ps
    simp only [nthQ_eq, sumQ_eq, Option.bind_some, optQ_eq, ifQ_eq]
    cases hp : ps[f]? with
    | none => exact .inl rfl
    | some p =>
      simp only [Option.elim_some, Option.bind_some]
      cases hc : fitQ P fl.type p with
      | false => exact .inl rfl
      | true =>
        simp only [cond_true, cond_beq]
        split
        · rename_i ho
          right
          rw [if_pos ⟨ho, (fitQ_iff _ _ _).1 hc⟩]
          rfl
        · exact .inl rfl

theorem fieldAddrQ_le (t : TypeId) (f : Nat) (x : AV) (k : AV → R) : Le bot ((fieldAddrQ bot P t f).f x k) ((fieldAddrAV P t x f).elim bot k) := by
  unfold fieldAddrQ fieldAddrAV
  cases hf : fieldOf P t f with
  | none => exact .inl rfl
  | some fl =>
    simp only [Option.bind_some]
    cases hs : tsize P fl.type with
    | none => exact .inl rfl
    | some sz =>
      simp only [Option.bind_some, cond_beq]
      split
      · exact .inl rfl
      · dsimp only
        rw [swFld_eq]
        cases x <;> try exact .inl rfl
        · simp only [snocQ_eq]; exact .inr rfl
        · rename_i v
          simp only [swAgg_eq]
          cases v <;> try exact .inl rfl
          rename_i n ps
          simp only [nthQ_eq, sumQ_eq, optQ_eq, ifQ_eq]
          cases hp : ps[f]? with
          | none => exact .inl rfl
          | some p =>
            simp only [Option.elim_some, Option.bind_some, cond_beq]
            split
            · exact .inr rfl
            · exact .inl rfl

theorem indexAddrQ_le (t : TypeId) (x i : AV) (k : AV → R) : Le bot ((indexAddrQ bot sym P t).f x i k) ((indexAddrAV P t x i).elim bot k) := by
  unfold indexAddrQ indexAddrAV
  split
  · rename_i n e hu
    rw [hu]
    split
    · rename_i sz hsz
      dsimp only
      refine (idxK_le bot i _).trans bot ?_
      cases hi : i.idx with
      | none => exact .inl rfl
      | some j =>
        simp only [Option.elim_some, Option.bind_some, ifQ_eq, ltb_eq]
        by_cases hlt : j < n
        · rw [decide_eq_true hlt, cond_true, swFld_eq]
          cases x <;> try exact .inl rfl
          · right
            simp [hsz, hlt, snocQ_eq]
          · rename_i v
            simp only [swAgg_eq]
            cases v <;> try exact .inl rfl
            rename_i sz' xs
            simp only [cond_beq]
            split
            · rename_i he
              subst he
              rw [nthQ_eq, optQ_eq]
              right
              simp [hlt, hsz]
              cases xs[j]? <;> rfl
            · exact .inl rfl
        · rw [decide_eq_false hlt]; exact .inl rfl
    · exact .inl rfl
  · rename_i e hu
    rw [hu]
    split
    · rename_i sz hsz
      dsimp only
      refine (idxK_le bot i _).trans bot ?_
      cases hi : i.idx with
      | none => exact .inl rfl
      | some j =>
        simp only [Option.elim_some, Option.bind_some, swIdx_eq]
        cases x <;> try exact .inl rfl
        · rename_i p sz' n off len
          simp only [ifQ_eq, ltb_eq]
          by_cases hlt : j < len
          · rw [decide_eq_true hlt, cond_true, cond_beq]
            split
            · rename_i he
              subst he
              right
              simp [hlt, hsz, snocQ_eq]
            · exact .inl rfl
          · rw [decide_eq_false hlt]; exact .inl rfl
        · rename_i sz' xs
          simp only [ifQ_eq, cond_beq]
          split
          · rename_i he
            subst he
            cases sym with
            | true =>
              refine (etaK_some bot).trans bot (.inr ?_)
              simp only [hsz, if_true]
              cases xs[j]? <;> rfl
            | false =>
              rw [nthQ_eq, optQ_eq]
              right
              simp only [hsz, if_true, cond_false]
              cases xs[j]? <;> rfl
          · exact .inl rfl
    · exact .inl rfl
  · exact .inl rfl

theorem elim_map {α β γ : Type} (o : Option α) (f : α → β) (b : γ) (k : β → γ) : (o.map f).elim b k = o.elim b fun x => k (f x) := by cases o <;> rfl
theorem elim_bind {α β γ : Type} (o : Option α) (f : α → Option β) (b : γ) (k : β → γ) : (o.bind f).elim b k = o.elim b fun x => (f x).elim b k := by cases o <;> rfl

theorem appendQ_le {C : Ctx} (hP : C.P = P) (hA : C.A = A) (argTypes : Array TypeId) (x y : AV) (s : St) (k : AV → Heap → Bool → R) :
    Le bot ((appendQ bot sym P A argTypes).f C.n0 x y s.H k) ((evalBuiltin C .append argTypes [x, y] s).elim bot fun r => k r.1 r.2.1 r.2.2) := by
  subst hP hA
  unfold appendQ
  split
  · rename_i t u ht hu
    split
    · rename_i e d he hd
      cases hk : srcKind d with
      | false => exact .inl rfl
      | true =>
        simp only [cond_true]
        split
        · rename_i sz hsz
          dsimp only
          cases hs : (sym && isSl [x]) with
          | true =>
            simp only [cond_true, Bool.and_eq_true] at hs ⊢
            have := builtinK_le bot true (C := C) .append argTypes [x, y] s k
            refine .trans bot ?_ this
            right
            have h2 : isSl [x, y] = true := by cases x <;> simp_all [isSl]
            simp only [builtinK, h2, appendK, ht, hu, he, hd, hk, hsz]
            rfl
          | false =>
            simp only [cond_false]
            right
            simp only [evalBuiltin, ht, hu, he, hd, hk, hsz, Option.bind_some, Bool.true_eq_false, if_false]
            simp only [elim_bind, elim_map]
        · exact .inl rfl
    · exact .inl rfl
  · exact .inl rfl

theorem builtinQ_le {C : Ctx} (hP : C.P = P) (hA : C.A = A) (b : Builtin) (argTypes : Array TypeId) (args : List AV) (L T : Env') (H : Heap) (e : Bool) (k : AV → Heap → Bool → R) :
    Le bot ((builtinQ bot sym P U A b argTypes).f C.n0 args H k) ((evalBuiltin C b argTypes args ⟨L, T, H, e⟩).elim bot fun r => k r.1 r.2.1 r.2.2) := by
  unfold builtinQ
  split
  · split
    · rename_i t ht
      split
      · rename_i e' hu
        dsimp only
        split
        · rename_i x
          subst hP
          cases x <;> simp only [lenK, swLen_eq, evalBuiltin, ht, hu, Option.bind_some, AV.len] <;> first | exact .inl rfl | exact .inr rfl
        · exact .inl rfl
      · dsimp only
        rw [evalBuiltin_ctx P U A hP hA _ _ _ L T H e]
        exact .inr rfl
    · exact .inl rfl
  · dsimp only
    split
    · exact appendQ_le bot sym P A hP hA argTypes _ _ ⟨L, T, H, e⟩ k
    · exact .inl rfl
  · dsimp only
    rw [evalBuiltin_ctx P U A hP hA _ _ _ L T H e]
    exact .inr rfl

theorem enterQ_le {C : Ctx} (hP : C.P = P) (hU : C.U = U) {KK : OracleK R} (hK : ∀ f args H k, Le bot (KK f args H k) (KOf bot C.K f args H k)) (f : FuncId) (args : List AV) (L T : Env') (H : Heap) (e : Bool) (k : AV → Heap → Bool → R) :
    Le bot ((enterQ bot P U f).f KK args H k) ((enterAV C f args ⟨L, T, H, e⟩).elim bot fun r => k r.1 r.2.1 r.2.2) := by
  subst hP hU
  unfold enterQ enterAV
  split
  · rename_i fn hf
    rw [hf]
    split
    · rename_i c hb
      simp only [hb]
      split
      · exact hK _ _ _ _
      · exact .inl rfl
    · rename_i hb
      simp only [hb]
      exact .inr rfl
  · exact .inl rfl

theorem callQ_ok {C : Ctx} (hP : C.P = P) (hU : C.U = U) (hA : C.A = A) (c : Call) (t : TypeId) : (callQ bot sym P U A c).ok bot C (.call c) t := by
  unfold callQ
  split
  · rename_i b hb
    intro KK L T H e k hK
    have := builtinQ_le bot sym P U A hP hA b c.argTypes ((argsQ A c.args.toList).f L T) L T H e k
    dsimp only
    rw [argsQ_eq A L T H e] at this ⊢
    refine this.trans bot (.inr ?_)
    subst hA
    unfold evalOp
    simp only [hb]
  · rename_i f hb
    intro KK L T H e k hK
    refine (enterQ_le bot P U hP hU hK f _ L T H e k).trans bot (.inr ?_)
    rw [argsQ_eq A L T H e]
    subst hA
    unfold evalOp
    simp only [hb, St.eval, calleeAV, Option.bind_some, List.nil_append, List.append_nil]
  · rename_i f hf hb
    intro KK L T H e k hK
    dsimp only
    rw [argsQ_eq A L T H e, opdQ_eq A f L T H e]
    subst hA
    unfold evalOp
    simp only [hb, elim_bind, hP]
    subst hP
    cases calleeAV C.P (St.eval C.A ⟨L, T, H, e⟩ f) (c.args.toList.map (St.eval C.A ⟨L, T, H, e⟩)) with
    | none => exact .inl rfl
    | some x => exact enterQ_le bot C.P U rfl hU hK x.1 x.2 L T H e k
  · rename_i r m hb
    intro KK L T H e k hK
    dsimp only
    rw [argsQ_eq A L T H e, opdQ_eq A r L T H e]
    subst hA
    unfold evalOp
    simp only [hb, elim_bind, hP]
    subst hP
    cases methodAV C.P (St.eval C.A ⟨L, T, H, e⟩ r) m with
    | none => exact .inl rfl
    | some x => exact enterQ_le bot C.P U rfl hU hK x.1 _ L T H e k

theorem evalOp_ctx {C : Ctx} (hP : C.P = P) (hU : C.U = U) (hA : C.A = A) (op : Op) (t : TypeId) (hc : ∀ c, op ≠ .call c) (L T : Env') (H : Heap) (e : Bool) :
    evalOp (ctxQ P U A C.n0) ⟨L, T, H, false⟩ op t = evalOp C ⟨L, T, H, e⟩ op t := by
  subst hP hU hA
  cases op with
  | call c => exact absurd rfl (hc c)
  | load t a => cases a <;> rfl
  | makeMap t r => cases r <;> rfl
  | slice t x l h m => cases m <;> first | rfl | (cases h <;> rfl)
  | _ => rfl

theorem plainQ_ok {C : Ctx} (hP : C.P = P) (hU : C.U = U) (hA : C.A = A) (op : Op) (t : TypeId) (hc : ∀ c, op ≠ .call c) : (plainQ bot P U A op t).ok bot C op t := by
  intro KK L T H e k hK
  dsimp only
  rw [evalOp_ctx P U A hP hU hA op t hc L T H e]
  exact .inr rfl

theorem opQ_ok {C : Ctx} (hP : C.P = P) (hU : C.U = U) (hA : C.A = A) (op : Op) (t : TypeId) : (opQ bot sym P U A op t).ok bot C op t := by
  unfold opQ
  split
  · intro L T H e k
    dsimp only
    rw [opdQ_eq A _ L T H e]; subst hA; exact .inr rfl
  · intro L T H e k
    dsimp only
    rw [opdQ_eq A _ L T H e]; subst hA; exact .inr rfl
  · rename_i c a b
    intro L T H e k
    dsimp only
    rw [opdQ_eq A c L T H e, opdQ_eq A a L T H e, opdQ_eq A b L T H e, swBool_eq]
    subst hA
    unfold evalOp
    simp only [ifQ_eq]
    split
    · rename_i t ht
      rw [ht]
      cases t <;> exact .inr rfl
    · exact .inl rfl
  · rename_i t
    subst hP
    split
    · rename_i z hz
      intro KK L T H e k hK
      dsimp only
      right
      simp only [evalOp, hz, Option.map_some, Option.elim_some, newVarAV, newBlk, lenQ_eq, snocQ_eq]
    · rename_i hz
      intro L T H e k
      exact .inl rfl
  · rename_i t g
    intro L T H e k
    subst hP hU
    dsimp only
    right
    simp only [evalOp, elim_map, elim_bind]
    cases C.U.G g <;> rfl
  · rename_i t a hg
    intro L T H e k
    dsimp only
    rw [opdQ_eq A a L T H e]
    subst hP hA
    refine (loadK_le bot C.P t H _ _).trans bot (.inr ?_)
    have : ∀ ty, evalOp C ⟨L, T, H, e⟩ (.load t a) ty = (loadAV C.P H t (St.eval C.A ⟨L, T, H, e⟩ a)).map fun v => (v, H, false) := by
      intro ty
      cases a <;> first | rfl | exact absurd rfl (hg _)
    rw [this, elim_map]
  · rename_i t a x
    intro KK L T H e k hK
    dsimp only
    rw [opdQ_eq A a L T H e, opdQ_eq A x L T H e]
    subst hP hA
    refine (storeK_le bot C.P C.n0 t H _ _ _).trans bot (.inr ?_)
    simp only [evalOp, elim_map]
  · rename_i x
    intro L T H e k
    dsimp only
    rw [opdQ_eq A x L T H e]
    subst hA
    unfold evalOp
    simp only [swNil_eq]
    generalize St.eval C.A ⟨L, T, H, e⟩ x = v
    cases v <;> try first | exact .inl rfl | exact .inr rfl
    rename_i fn a b
    cases fn <;> first | exact .inl rfl | exact .inr rfl
  · rename_i o t x y u
    intro L T H e k
    exact binK_le bot P A hP hA o t u x y L T H e _ k
  · rename_i t x f
    intro L T H e k
    dsimp only
    rw [opdQ_eq A x L T H e]
    subst hP hA
    refine (fieldAddrQ_le bot C.P t f _ _).trans bot (.inr ?_)
    simp only [evalOp, elim_map]
  · rename_i t x f
    intro L T H e k
    dsimp only
    rw [opdQ_eq A x L T H e]
    subst hP hA
    refine (fieldQ_le bot C.P t f _ _).trans bot (.inr ?_)
    simp only [evalOp, elim_map]
  · rename_i t x i
    intro L T H e k
    dsimp only
    rw [opdQ_eq A x L T H e, opdQ_eq A i L T H e]
    subst hP hA
    refine (indexAddrQ_le bot sym C.P t _ _ _).trans bot (.inr ?_)
    simp only [evalOp, elim_map]
  · rename_i t i
    intro L T H e k
    dsimp only
    rw [opdQ_eq A t L T H e, swTup_eq]
    subst hA
    unfold evalOp
    simp only [optQ_eq]
    split
    · rename_i vs hv
      rw [hv, nthQ_eq]
      right
      simp only [elim_map]
    · exact .inl rfl
  · rename_i t x lo hi
    intro L T H e k
    dsimp only
    have h1 : (fun o => (opdQ A o).f L T) = St.eval A ⟨L, T, H, e⟩ := funext fun o => opdQ_eq A o L T H e
    rw [h1, opdQ_eq A x L T H e]
    subst hP hA
    right
    simp only [evalOp, elim_map]
  · rename_i src dst x
    intro KK L T H e k hK
    dsimp only
    rw [opdQ_eq A x L T H e]
    subst hP hA
    right
    simp only [evalOp, elim_map]
  · rename_i t parts
    intro L T H e k
    dsimp only
    have h1 : (fun x : Nat × Operand => (x.1, (opdQ A x.2).f L T)) = fun x => (x.1, St.eval A ⟨L, T, H, e⟩ x.2) := funext fun x => by rw [opdQ_eq A x.2 L T H e]
    rw [h1]
    subst hP hA
    right
    simp only [evalOp, elim_map]
  · rename_i t x i
    intro L T H e k
    dsimp only
    rw [opdQ_eq A x L T H e, opdQ_eq A i L T H e]
    subst hP hA
    right
    simp only [evalOp, elim_map]
  · rename_i x a asserted ok
    intro L T H e k
    dsimp only
    rw [opdQ_eq A x L T H e]
    subst hP hA
    right
    simp only [evalOp, elim_map]
  · rename_i c
    exact callQ_ok bot sym P U A hP hU hA c _
  · rename_i op h1 h2 h3 h4 h5 h6 h7 h8 h9 h10 h11 h12 h13 h14 h15 h16 h17 h18 h19
    exact plainQ_ok bot P U A hP hU hA _ _ (by intro c hc; exact (by assumption : ∀ c, _ = Op.call c → False) c hc)

end
end Go.X
