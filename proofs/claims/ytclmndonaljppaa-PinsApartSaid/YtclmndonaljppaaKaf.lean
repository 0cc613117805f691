/-
  Functions that only look: what the evaluator finds on what the arguments hold now, on its own memory, holds in any memory.
-/
import Derived.Test.YtclmndonaljppaaKae
import Derived.Sort.Grow

namespace Go.X
open Go.RowKit (Below)

/-- What a value holds now. -/
def snapAV (H : Heap) : AV → Option AV
  | .sl p e n off len => (elemsAV H e (.sl p e n off len)).bind fun xs => if reflessL xs && decide (0 < e) then some (.isl e xs) else none
  | v => if v.refless then some v else none

def snapL (H : Heap) : List AV → Option (List AV)
  | [] => some []
  | v :: vs => (snapAV H v).bind fun x => (snapL H vs).map fun xs => x :: xs

mutual
/-- A value that says nothing of memory. -/
def AV.clean : AV → Bool
  | .int _ _ | .bool _ | .str _ | .nilp | .nils | .nilm | .nilf | .nili | .hnd _ _ => true
  | .agg _ ps => cleanL ps
  | .arr _ xs => cleanL xs
  | .iface _ v => v.clean
  | _ => false
def cleanL : List AV → Bool
  | [] => true
  | v :: vs => v.clean && cleanL vs
end

/-- Results. -/
def AV.cleanR : AV → Bool
  | .tuple vs => cleanL vs
  | v => v.clean

theorem FR.ofClean {E E' : Env} {vs : List AV} {cs : List Value} (h : FR E vs cs) : cleanL vs = true → FR E' vs cs := by
  induction h with
  | nil => intro _; exact .nil
  | int h ih => intro hc; exact .int (ih (by simpa [cleanL, AV.clean] using hc))
  | bool h ih => intro hc; exact .bool (ih (by simpa [cleanL, AV.clean] using hc))
  | str h ih => intro hc; exact .str (ih (by simpa [cleanL, AV.clean] using hc))
  | nilp h ih => intro hc; exact .nilp (ih (by simpa [cleanL, AV.clean] using hc))
  | nils h ih => intro hc; exact .nils (ih (by simpa [cleanL, AV.clean] using hc))
  | nilm h ih => intro hc; exact .nilm (ih (by simpa [cleanL, AV.clean] using hc))
  | nilf h ih => intro hc; exact .nilf (ih (by simpa [cleanL, AV.clean] using hc))
  | hnd h ih => intro hc; exact .hnd (ih (by simpa [cleanL, AV.clean] using hc))
  | nili h ih => intro hc; exact .nili (ih (by simpa [cleanL, AV.clean] using hc))
  | map h1 h2 h ih => intro hc; simp [cleanL, AV.clean] at hc
  | sptr h1 h2 h ih => intro hc; simp [cleanL, AV.clean] at hc
  | ptr h1 h2 h ih => intro hc; simp [cleanL, AV.clean] at hc
  | sl h1 h2 h3 hs h ih => intro hc; simp [cleanL, AV.clean] at hc
  | isl h1 h2 h3 h4 h5 h6 h ih1 ih => intro hc; simp [cleanL, AV.clean] at hc
  | iptr h1 h2 h3 h ih1 ih => intro hc; simp [cleanL, AV.clean] at hc
  | func h1 h2 h3 h ih1 ih2 ih => intro hc; simp [cleanL, AV.clean] at hc
  | iface h1 h ih1 ih =>
    intro hc
    simp only [cleanL, AV.clean, Bool.and_eq_true] at hc
    exact .iface (ih1 (by simp [cleanL, hc.1])) (ih hc.2)
  | agg h1 hn h ih1 ih =>
    intro hc
    simp only [cleanL, AV.clean, Bool.and_eq_true] at hc
    exact .agg (ih1 hc.1) hn (ih hc.2)
  | arr h1 hn h ih1 ih =>
    intro hc
    simp only [cleanL, AV.clean, Bool.and_eq_true] at hc
    exact .arr (ih1 hc.1) hn (ih hc.2)

theorem PR.ofClean {E E' : Env} {v : AV} {c : Value} (h : PR E v c) (hc : v.clean = true) : PR E' v c := by
  obtain ⟨cs, h1, h2⟩ := h
  exact ⟨cs, h1.ofClean (by simp [cleanL, hc]), h2⟩

theorem cleanL_mem : ∀ {vs : List AV} {v : AV}, cleanL vs = true → v ∈ vs → v.clean = true
  | x :: xs, v, h, hm => by
    simp only [cleanL, Bool.and_eq_true] at h
    rcases List.mem_cons.1 hm with rfl | hm
    · exact h.1
    · exact cleanL_mem h.2 hm

theorem VR.ofClean {E E' : Env} {v : AV} {c : Value} (h : VR E v c) (hc : v.cleanR = true) : VR E' v c := by
  cases v with
  | bad => simp [AV.cleanR, AV.clean] at hc
  | undf => simp [AV.cleanR, AV.clean] at hc
  | yld => simp [AV.cleanR, AV.clean] at hc
  | tuple vs =>
    obtain ⟨cvs, h1, h2, h3⟩ := h
    refine ⟨cvs, h1, h2, fun i v c hv hcv => ?_⟩
    have hcl := cleanL_mem (show cleanL vs = true from hc) (List.mem_of_getElem? hv)
    rcases h3 i v c hv hcv with rfl | hp
    · simp [AV.clean] at hcl
    · exact .inr (hp.ofClean hcl)
  | _ => exact PR.ofClean (show PR E _ c from h) hc

/-- Values without references, seen from the world alone. -/
theorem FR.toStart {B : Nat} {E : Env} {H : Heap} {w : World} (hs : Sim B E H w) {vs : List AV} {cs : List Value} (h : FR E vs cs) : reflessL vs = true → FR (Env.start w) vs cs := by
  induction h with
  | nil => intro _; exact .nil
  | int h ih => intro hc; exact .int (ih (by simpa [reflessL, AV.refless] using hc))
  | bool h ih => intro hc; exact .bool (ih (by simpa [reflessL, AV.refless] using hc))
  | str h ih => intro hc; exact .str (ih (by simpa [reflessL, AV.refless] using hc))
  | nilp h ih => intro hc; exact .nilp (ih (by simpa [reflessL, AV.refless] using hc))
  | nils h ih => intro hc; exact .nils (ih (by simpa [reflessL, AV.refless] using hc))
  | nilm h ih => intro hc; exact .nilm (ih (by simpa [reflessL, AV.refless] using hc))
  | nilf h ih => intro hc; exact .nilf (ih (by simpa [reflessL, AV.refless] using hc))
  | hnd h ih => intro hc; exact .hnd (ih (by simpa [reflessL, AV.refless] using hc))
  | nili h ih => intro hc; exact .nili (ih (by simpa [reflessL, AV.refless] using hc))
  | map h1 h2 h ih => intro hc; simp [reflessL, AV.refless] at hc
  | sptr h1 h2 h ih => intro hc; simp [reflessL, AV.refless] at hc
  | ptr h1 h2 h ih => intro hc; simp [reflessL, AV.refless] at hc
  | sl h1 h2 h3 hs h ih => intro hc; simp [reflessL, AV.refless] at hc
  | isl h1 h2 h3 h4 h5 h6 h ih1 ih =>
    intro hc
    exact .isl h1 (ih1 h1) h3 h4 (fun j c hc => hs.imm _ _ _ (h5 j c hc)) h6 (ih (by simpa [reflessL, AV.refless] using hc))
  | iptr h1 h2 h3 h ih1 ih =>
    intro hc
    exact .iptr h1 (ih1 (by simp [reflessL, h1])) (fun j c hc => hs.imm _ _ _ (h3 j c hc)) (ih (by simpa [reflessL, AV.refless] using hc))
  | func h1 h2 h3 h ih1 ih2 ih => intro hc; simp [reflessL, AV.refless] at hc
  | iface h1 h ih1 ih =>
    intro hc
    simp only [reflessL, AV.refless, Bool.and_eq_true] at hc
    exact .iface (ih1 (by simp [reflessL, hc.1])) (ih hc.2)
  | agg h1 hn h ih1 ih =>
    intro hc
    simp only [reflessL, AV.refless, Bool.and_eq_true] at hc
    exact .agg (ih1 hc.1) hn (ih hc.2)
  | arr h1 hn h ih1 ih =>
    intro hc
    simp only [reflessL, AV.refless, Bool.and_eq_true] at hc
    exact .arr (ih1 hc.1) hn (ih hc.2)

section
variable {P : Program} {B : Nat} {E : Env} {H : Heap} {w : World}

theorem snap_plain {H : Heap} {v : AV} (hns : ∀ p e n off len, v ≠ .sl p e n off len) : snapAV H v = if v.refless then some v else none := by
  cases v <;> first | rfl | exact absurd rfl (hns _ _ _ _ _)

theorem snap_ok (hs : Sim B E H w) {v x : AV} {c : Value} (hv : VR E v c) (h : snapAV H v = some x) : VR (Env.start w) x c := by
  by_cases hsl : ∃ p e n off len, v = .sl p e n off len
  · obtain ⟨p, e, n, off, len, rfl⟩ := hsl
    simp only [snapAV, Option.bind_eq_some_iff] at h
    obtain ⟨xs, hxs, h⟩ := h
    split at h
    · rename_i hr
      obtain rfl := Option.some.inj h
      simp only [Bool.and_eq_true, decide_eq_true_eq] at hr
      obtain ⟨a, cap, L, cells, rfl, hsp, hcap, hL, hfx, hex, hlx, _, hwh⟩ := sl_where hs (show PR E (.sl p e n off len) c from hv) hxs
      obtain ⟨ab, ao, asl⟩ := a
      simp only at hsp
      subst hsp
      rw [← hlx]
      exact VR.of_PR (v := .isl _ _) ⟨[_], .isl hr.1 (hfx.toStart hs hr.1) hex (by omega) (fun j c hj => (hwh j c hj).2.2.2) (.inl rfl) .nil, rfl⟩
    · simp at h
  · rw [snap_plain (fun p e n off len he => hsl ⟨p, e, n, off, len, he⟩)] at h
    split at h
    · rename_i hr
      obtain rfl := Option.some.inj h
      have hp : PR E v c := by
        cases v with
        | bad => simp [AV.refless] at hr
        | undf => simp [AV.refless] at hr
        | yld => simp [AV.refless] at hr
        | tuple vs => simp [AV.refless] at hr
        | _ => exact hv
      obtain ⟨cs, h1, h2⟩ := hp
      exact VR.of_PR ⟨cs, h1.toStart hs (by simp [reflessL, hr]), h2⟩
    · simp at h

theorem snapL_ok (hs : Sim B E H w) : ∀ {args xs : List AV} {cargs : List Value}, snapL H args = some xs → args.length = cargs.length →
    (∀ (i : Nat) (v : AV) (c : Value), args[i]? = some v → cargs[i]? = some c → VR E v c) → xs.length = cargs.length ∧ ∀ (i : Nat) (v : AV) (c : Value), xs[i]? = some v → cargs[i]? = some c → VR (Env.start w) v c
  | [], xs, cargs, h, hl, hv => by
    obtain rfl := Option.some.inj h
    exact ⟨hl, by simp⟩
  | a :: args, xs, cargs, h, hl, hv => by
    simp only [snapL, Option.bind_eq_some_iff, Option.map_eq_some_iff] at h
    obtain ⟨x, hx, ys, hys, rfl⟩ := h
    cases cargs with
    | nil => simp at hl
    | cons c cs =>
      obtain ⟨k1, k2⟩ := snapL_ok hs hys (by simpa using hl) (fun i v c h1 h2 => hv (i + 1) v c (by simpa using h1) (by simpa using h2))
      refine ⟨by simp [k1], fun i v c' h1 h2 => ?_⟩
      cases i with
      | zero =>
        simp only [List.getElem?_cons_zero, Option.some.injEq] at h1 h2
        subst h1 h2
        exact snap_ok hs (hv 0 a c rfl rfl) hx
      | succ i => exact k2 i v c' (by simpa using h1) (by simpa using h2)

/-- Where nothing that was there is touched, the memory stands as it stood. -/
theorem Sim.stays (hs : Sim B E H w) {w' : World} (hb : Below w.heap.size w w') : Sim B E H w' := by
  refine ⟨hs.top, fun i bk hi => ?_, hs.dead, hs.apart, fun b o c hc => ?_, hs.immApart, hs.flat, Nat.le_trans hs.old hb.size, fun i es hi => ?_, hs.mdead, hs.mapart⟩
  · obtain ⟨L, hL, ⟨⟨cs, h1, h2, h3⟩, h4, h5⟩, h6⟩ := hs.live i bk hi
    refine ⟨L, hL, ⟨⟨cs, h1, h2, fun j c hj => ?_⟩, h4, fun j hj => ?_⟩, h6⟩
    · have := h3 j c hj
      rw [hb.cell (p := ⟨L.b, L.base + j, none⟩) (World.block_lt_of_cell? w _ this)]
      exact this
    · obtain ⟨k1, k2⟩ := h5 j hj
      obtain ⟨c, hc⟩ := Option.isSome_iff_exists.1 k1
      have hlt : L.b < w.heap.size := World.block_lt_of_cell? w _ hc
      rw [hb.cell (p := ⟨L.b, L.base + j, none⟩) hlt, hb.frozen (p := ⟨L.b, L.base + j, none⟩) hlt]
      exact ⟨k1, k2⟩
  · have := hs.imm b o c hc
    rw [hb.cell (p := ⟨b, o, none⟩) (World.block_lt_of_cell? w _ this)]
    exact this
  · obtain ⟨b, h1, ⟨vs, clock, h2, h3⟩, h4⟩ := hs.mlive i es hi
    refine ⟨b, h1, ⟨vs, clock, ?_, h3⟩, h4⟩
    rw [hb.block b (by
      rcases Nat.lt_or_ge b w.heap.size with h | h
      · exact h
      · rw [Array.getElem?_eq_none h] at h2; cases h2)]
    exact h2

theorem Tr.stays (hs : Sim B E H w) {w' : World} {k : Nat} (hb : Below w.heap.size w w') : Tr B k E w E w' :=
  ⟨hb.mono hs.old, Evol.refl _ _, fun b o hlt _ => ⟨hb.cell (p := ⟨b, o, none⟩) hlt, hb.frozen (p := ⟨b, o, none⟩) hlt⟩, fun _ _ _ h => h, fun _ _ _ _ h => .inl h, fun j o ho _ _ => by
    rw [hb.block j (by
      rcases Nat.lt_or_ge j w.heap.size with h | h
      · exact h
      · rw [Array.getElem?_eq_none h] at ho; cases ho)]
    exact ho, fun _ _ h => h⟩

/-- The oracle of functions that only look. -/
def pureK (k : FuncId → List AV → Option AV) : Oracle := fun f args H => (snapL H args).bind fun xs => (k f xs).map fun v => (v, H, false)

theorem pure_sound {U : Out} {ann : FuncId → FAnn} {fuel n : Nat} {K : Oracle} {k : FuncId → List AV → Option AV} (hK : ∀ B, OracleSound P B U.G K) (hX : ∀ B, ExtSound P B U.X) (hm : P.follows .mixedOrders = true)
    (hA : ∀ f, funcOk P (ann f) f = true) (hk : ∀ f xs v, k f xs = some v → v.cleanR = true ∧ ∃ H' e, evalN P U ann fuel K n f xs [] = some (v, H', e)) (B : Nat) : OracleSound P B U.G (pureK k) := by
  intro f args H v H' e h E w cargs hs hG hl hv
  simp only [pureK, Option.bind_eq_some_iff, Option.map_eq_some_iff, Prod.mk.injEq] at h
  obtain ⟨xs, hxs, v', hv', rfl, rfl, rfl⟩ := h
  obtain ⟨hc, H1, e1, he⟩ := hk f xs v' hv'
  obtain ⟨k1, k2⟩ := snapL_ok hs hxs hl hv
  have hG' : GlobOk U.G (Env.start w) := fun g u hu => by
    obtain ⟨cs, h1, h2⟩ := (show PR E (.iptr u) _ from hG g u hu)
    refine VR.of_PR (v := .iptr u) ⟨cs, h1.toStart hs ?_, h2⟩
    cases h1 with
    | iptr h3 _ _ _ => simp [reflessL, AV.refless]
  refine (evalN_ok (hK w.heap.size) (hX _) hm hA n f xs [] v' H1 e1 he (Env.start w) w cargs (Sim.start w) hG' k1 k2).mono ?_
  rintro en w' ⟨c, E', rfl, hr⟩
  have hb := hr.tr.below
  exact ⟨c, E, rfl, ⟨hs.stays hb, hr.val.ofClean hc, Tr.stays hs hb, Nat.le_refl _, fun _ => Sub.refl _ _⟩⟩

/-- Two oracles, one after the other. -/
theorem orElse_sound {G : Nat → Option AV} {K1 K2 : Oracle} (h1 : OracleSound P B G K1) (h2 : OracleSound P B G K2) : OracleSound P B G (fun f args H => match K1 f args H with | some r => some r | none => K2 f args H) := by
  intro f args H v H' e h
  simp only at h
  split at h
  · rename_i r hr
    obtain rfl := Option.some.inj h
    exact h1 f args H v H' e hr
  · exact h2 f args H v H' e h

end

/-- What a table tells of functions that only look: where its test holds, the value. -/
abbrev Table := FuncId → Option (List AV → Option (Bool × AV))

def kOf (T : Table) : FuncId → List AV → Option AV := fun f xs => match T f with
  | some t => match t xs with
    | some (true, v) => some v
    | _ => none
  | none => none

section
variable {R : Type} (bot : R)

def snapVK (H : Heap) (v : AV) (k : AV → R) : R :=
  match v with
  | .sl p e n off len => elemsK bot H e (.sl p e n off len) fun xs => cond (reflessL xs && decide (0 < e)) (k (.isl e xs)) bot
  | v => cond v.refless (k v) bot

def snapLK (H : Heap) : List AV → (List AV → R) → R
  | [], k => k []
  | v :: vs, k => snapVK bot H v fun x => snapLK H vs fun xs => k (x :: xs)

theorem snapVK_le (H : Heap) (v : AV) (k : AV → R) : Le bot (snapVK bot H v k) ((snapAV H v).elim bot k) := by
  unfold snapVK
  split
  · rename_i p e n off len
    refine (elemsK_le bot _ _ _ _).trans bot ?_
    simp only [snapAV]
    cases elemsAV H e (.sl p e n off len) with
    | none => exact .inl rfl
    | some xs =>
      simp only [Option.elim_some, Option.bind_some]
      cases hc : (reflessL xs && decide (0 < e)) with
      | false => exact .inl rfl
      | true => right; simp
  · rename_i hn
    rw [snap_plain (fun p e n off len he => hn p e n off len he)]
    cases hc : v.refless with
    | false => exact .inl rfl
    | true => right; simp

theorem snapLK_le (H : Heap) : ∀ (vs : List AV) (k : List AV → R), Le bot (snapLK bot H vs k) ((snapL H vs).elim bot k)
  | [], k => .inr rfl
  | v :: vs, k => by
    unfold snapLK snapL
    refine (snapVK_le bot H v _).trans bot ?_
    cases snapAV H v with
    | none => exact .inl rfl
    | some x =>
      simp only [Option.elim_some, Option.bind_some]
      refine (snapLK_le H vs _).trans bot (.inr ?_)
      cases snapL H vs <;> rfl

/-- The evaluator handing on, with a table. -/
def evalTK (P : Program) (U : Out) (ann : FuncId → FAnn) (fuel : Nat) (T : Table) : Nat → OracleK R
  | 0 => fun _ _ _ _ => bot
  | n + 1 => fun f args H k => match T f with
    | some t => snapLK bot H args fun xs => match t xs with
      | some (b, v) => cond b (k v H false) bot
      | none => bot
    | none => evalFK bot true P U ann fuel (evalN P U ann fuel (pureK (kOf T)) n) (evalTK P U ann fuel T n) f args H k

theorem evalTK_le {P : Program} {U : Out} {ann : FuncId → FAnn} {fuel : Nat} {T : Table} : ∀ (n : Nat) (f : FuncId) (args : List AV) (H : Heap) (k : AV → Heap → Bool → R),
    Le bot (evalTK bot P U ann fuel T n f args H k) (KOf bot (evalN P U ann fuel (pureK (kOf T)) n) f args H k)
  | 0, f, args, H, k => .inl rfl
  | n + 1, f, args, H, k => by
    show Le bot (match T f with
      | some t => snapLK bot H args fun xs => match t xs with
        | some (b, v) => cond b (k v H false) bot
        | none => bot
      | none => evalFK bot true P U ann fuel (evalN P U ann fuel (pureK (kOf T)) n) (evalTK bot P U ann fuel T n) f args H k)
      ((match pureK (kOf T) f args H with | some r => some r | none => evalF P U ann fuel (evalN P U ann fuel (pureK (kOf T)) n) f args H).elim bot fun r => k r.1 r.2.1 r.2.2)
    cases hT : T f with
    | none =>
      have : pureK (kOf T) f args H = none := by
        unfold pureK kOf
        rw [hT]
        cases snapL H args <;> rfl
      rw [this]
      exact evalFK_le bot true (evalTK_le n) f args H k
    | some t =>
      refine (snapLK_le bot H args _).trans bot ?_
      cases hs : snapL H args with
      | none => exact .inl rfl
      | some xs =>
        simp only [Option.elim_some]
        cases ht : t xs with
        | none => exact .inl rfl
        | some r =>
          obtain ⟨b, v⟩ := r
          cases b
          · exact .inl rfl
          · right
            have : pureK (kOf T) f args H = some (v, H, false) := by
              unfold pureK kOf
              simp [hs, hT, ht]
            rw [this]
            rfl
end

theorem evalN_of_T {P : Program} {U : Out} {ann : FuncId → FAnn} {fuel n : Nat} {T : Table} {f : FuncId} {args : List AV} {H : Heap} {r : AV × Heap × Bool}
    (h : evalTK none P U ann fuel T n f args H (fun v H e => some (v, H, e)) = some r) : evalN P U ann fuel (pureK (kOf T)) n f args H = some r := by
  rcases evalTK_le (R := Option (AV × Heap × Bool)) none (P := P) (U := U) (ann := ann) (fuel := fuel) (T := T) n f args H (fun v H e => some (v, H, e)) with h1 | h1
  · rw [h] at h1; cases h1
  · rw [h] at h1
    unfold KOf at h1
    cases hx : evalN P U ann fuel (pureK (kOf T)) n f args H with
    | none => rw [hx] at h1; cases h1
    | some x => rw [hx] at h1; exact h1.symm

theorem run_of_trueT {P : Program} {U : Out} {ann : FuncId → FAnn} {fuel n : Nat} {T : Table} {f : FuncId} {args : List AV} {H : Heap}
    (h : evalTK false P U ann fuel T n f args H (fun v _ _ => v.isTrue) = true) : ∃ H' e, evalN P U ann fuel (pureK (kOf T)) n f args H = some (.bool true, H', e) := by
  rcases evalTK_le (R := Bool) false (P := P) (U := U) (ann := ann) (fuel := fuel) (T := T) n f args H (fun v _ _ => v.isTrue) with h1 | h1
  · rw [h] at h1; cases h1
  rw [h1] at h
  unfold KOf at h
  cases hx : evalN P U ann fuel (pureK (kOf T)) n f args H with
  | none => rw [hx] at h; simp at h
  | some r =>
    obtain ⟨v, H', e⟩ := r
    rw [hx] at h
    simp only [Option.elim_some] at h
    cases v <;> simp [AV.isTrue] at h
    subst h
    exact ⟨H', e, rfl⟩

/-- A table that is sound: each entry was found by the evaluator, with a sound table ahead. -/
structure FunTab (P : Program) (U : Out) (T : Table) : Prop where
  ok : ∀ B, OracleSound P B U.G (pureK (kOf T))

theorem FunTab.none {P : Program} {U : Out} : FunTab P U (fun _ => Option.none) := ⟨fun B f args H v H' e h => by
  unfold pureK kOf at h
  cases hx : snapL H args <;> simp [hx] at h⟩

/-- One function more, whatever way it was found. -/
theorem FunTab.addN {P : Program} {U : Out} {ann : FuncId → FAnn} {fuel n : Nat} {T : Table} (hT : FunTab P U T) (hX : ∀ B, ExtSound P B U.X) (hm : P.follows .mixedOrders = true) (hA : ∀ f, funcOk P (ann f) f = true)
    {g : FuncId} {t : List AV → Option (Bool × AV)} (h : ∀ xs v, t xs = some (true, v) → v.cleanR = true ∧ ∃ H' e, evalN P U ann fuel (pureK (kOf T)) n g xs [] = some (v, H', e)) :
    FunTab P U (fun f => if f = g then some t else T f) := by
  refine ⟨fun B => ?_⟩
  have h1 : OracleSound P B U.G (pureK fun f xs => if f = g then (match t xs with | some (true, v) => some v | _ => Option.none) else Option.none) :=
    pure_sound hT.ok hX hm hA (fun f xs v hv => by
      split at hv
      · rename_i hf
        subst hf
        split at hv
        · rename_i v' hv'
          obtain rfl := Option.some.inj hv
          exact h xs v' hv'
        · cases hv
      · cases hv) B
  intro f args H v H' e hx
  by_cases hf : f = g
  · refine h1 f args H v H' e ?_
    rw [← hx]
    unfold pureK kOf
    simp only [if_pos hf]
  · refine hT.ok B f args H v H' e ?_
    rw [← hx]
    unfold pureK kOf
    simp only [if_neg hf]

/-- One function more. -/
theorem FunTab.add {P : Program} {U : Out} {ann : FuncId → FAnn} {fuel n : Nat} {T : Table} (hT : FunTab P U T) (hX : ∀ B, ExtSound P B U.X) (hm : P.follows .mixedOrders = true) (hA : ∀ f, funcOk P (ann f) f = true)
    {g : FuncId} {t : List AV → Option (Bool × AV)} (h : ∀ xs v, t xs = some (true, v) → v.cleanR = true ∧ evalTK Option.none P U ann fuel T n g xs [] (fun v H e => some (v, H, e)) = some (v, [], false)) :
    FunTab P U (fun f => if f = g then some t else T f) :=
  hT.addN hX hm hA (fun xs v hv => ⟨(h xs v hv).1, [], false, evalN_of_T (h xs v hv).2⟩)

end Go.X
/-
  A call looks at a piece of memory alone: what it does to the piece, its blocks numbered anew, it does to the whole.
-/
namespace Go.X
open Go.RowKit (Below)

section
variable {B : Nat} {E : Env} {H : Heap} {w : World} {p : List Nat}

/-! ### Back -/
def backN (p : List Nat) (n j : Nat) : Nat := match p[j]? with
  | some i => i
  | none => n + (j - p.length)

def setAll (f : Option Blk → Option Blk) : List Nat → Heap → Heap → Heap
  | i :: r, b :: bs, H => setAll f r bs (H.set i (f b))
  | _, _, H => H

def backH (p : List Nat) (H H1 : Heap) : Heap := setAll (renB (backN p H.length)) p H1 H ++ (H1.drop p.length).map (renB (backN p H.length))

theorem setAll_length (f : Option Blk → Option Blk) : ∀ (p : List Nat) (H1 H : Heap), (setAll f p H1 H).length = H.length
  | [], _, _ => by simp [setAll]
  | _ :: _, [], _ => by simp [setAll]
  | i :: r, b :: bs, H => by rw [setAll, setAll_length f r bs]; simp

theorem raw_set {H : Heap} {i j : Nat} {x : Option Blk} (hi : i < H.length) : Heap.raw (H.set i x) j = if i = j then x else H.raw j := get_set hi

theorem setAll_raw (f : Option Blk → Option Blk) : ∀ (p : List Nat) (H1 H : Heap), p.Nodup → (∀ i ∈ p, i < H.length) → p.length ≤ H1.length → ∀ i, (setAll f p H1 H).raw i = if i ∈ p then f (H1.raw (idx p i)) else H.raw i
  | [], H1, H, _, _, _, i => by simp [setAll]
  | _ :: _, [], H, _, _, hl, i => by simp at hl
  | k :: r, b :: bs, H, hn, hlt, hl, i => by
    obtain ⟨hk, hn'⟩ := List.nodup_cons.1 hn
    rw [setAll, setAll_raw f r bs (H.set k (f b)) hn' (fun j hj => by rw [List.length_set]; exact hlt j (List.mem_cons_of_mem _ hj)) (by simpa using hl) i]
    by_cases hi : i ∈ r
    · have hki : k ≠ i := fun he => hk (he ▸ hi)
      rw [if_pos hi, if_pos (List.mem_cons_of_mem _ hi), idx_ne hki]
      rfl
    · rw [if_neg hi, raw_set (hlt k List.mem_cons_self)]
      by_cases hki : k = i
      · subst hki
        rw [if_pos rfl, if_pos List.mem_cons_self, idx_eq]
        rfl
      · rw [if_neg hki, if_neg (by simp [hi, Ne.symm hki])]

/-- Where a number comes from. -/
def srcN (p : List Nat) (n i : Nat) : Option Nat := if i ∈ p then some (idx p i) else if i < n then none else some (i - n + p.length)

theorem src_back {n : Nat} (hn : p.Nodup) (hlt : ∀ i ∈ p, i < n) (j : Nat) : srcN p n (backN p n j) = some j := by
  unfold backN srcN
  cases hj : p[j]? with
  | some i =>
    simp only
    rw [if_pos (List.mem_of_getElem? hj), idx_of hn hj]
  | none =>
    simp only
    have hj' : p.length ≤ j := by simpa using hj
    rw [if_neg (fun h => absurd (hlt _ h) (by omega)), if_neg (by omega)]
    congr 1
    omega
theorem back_src {n i j : Nat} (h : srcN p n i = some j) : backN p n j = i := by
  unfold srcN at h
  unfold backN
  split at h
  · rename_i hi
    obtain rfl := Option.some.inj h
    rw [idx_get hi]
  · split at h
    · cases h
    · rename_i h1 h2
      obtain rfl := Option.some.inj h
      rw [List.getElem?_eq_none (by omega)]
      simp only
      omega
theorem src_none {n i : Nat} (h : srcN p n i = none) : i ∉ p ∧ i < n := by
  unfold srcN at h
  split at h
  · cases h
  · split at h
    · exact ⟨by assumption, by assumption⟩
    · cases h

theorem backH_raw {H1 : Heap} (hp : Piece H p) (hl : p.length ≤ H1.length) (i : Nat) : (backH p H H1).raw i = match srcN p H.length i with
    | some j => renB (backN p H.length) (H1.raw j)
    | none => H.raw i := by
  unfold backH
  rw [Heap.raw, List.getElem?_append, setAll_length]
  by_cases hi : i < H.length
  · rw [if_pos hi]
    show Heap.raw _ i = _
    rw [setAll_raw _ p H1 H hp.nodup hp.lt hl]
    unfold srcN
    by_cases hm : i ∈ p
    · rw [if_pos hm, if_pos hm]
    · rw [if_neg hm, if_neg hm, if_pos hi]
  · rw [if_neg hi]
    unfold srcN
    rw [if_neg (fun h => hi (hp.lt i h)), if_neg hi]
    simp only
    rw [List.getElem?_map, List.getElem?_drop]
    unfold Heap.raw
    rw [show p.length + (i - H.length) = i - H.length + p.length by omega]
    cases H1[i - H.length + p.length]? <;> rfl
theorem backH_blk {H1 : Heap} (hp : Piece H p) (hl : p.length ≤ H1.length) (i : Nat) : (backH p H H1).blk i = match srcN p H.length i with
    | some j => (H1.blk j).map (renBk (backN p H.length))
    | none => H.blk i := by
  rw [Heap.blk_raw, backH_raw hp hl]
  cases srcN p H.length i with
  | none => rfl
  | some j => simp only; rw [blkOf_renB]; rfl
theorem backH_mp {H1 : Heap} (hp : Piece H p) (hl : p.length ≤ H1.length) (i : Nat) : (backH p H H1).mp i = match srcN p H.length i with
    | some j => H1.mp j
    | none => H.mp i := by
  rw [Heap.mp_raw, backH_raw hp hl]
  cases srcN p H.length i with
  | none => rfl
  | some j => simp only; rw [mpOf_renB]; rfl

def Env.back (E E1 : Env) (p : List Nat) (n : Nat) : Env := ⟨fun i => match srcN p n i with | some j => E1.loc j | none => E.loc i, E1.m, n + (E1.top - p.length), fun i => match srcN p n i with | some j => E1.mloc j | none => E.mloc i, E1.yl⟩

theorem piece_back {E1 : Env} {H1 : Heap} {w' : World} {v : AV} {c : Value} {e : Bool} (hs : Sim B E H w) (hp : Piece H p) (R : Res B (pieceH p H).length (E.piece p) (pieceH p H) w v H1 e E1 w' c) :
    Res B H.length E H w (v.ren (backN p H.length)) (backH p H H1) e (E.back E1 p H.length) w' c := by
  have hm0 : (pieceH p H).length = p.length := by simp [pieceH]
  have hl : p.length ≤ H1.length := by rw [← hm0]; exact R.len
  have htop := R.sim.top
  have hsb := src_back (n := H.length) hp.nodup hp.lt
  have hgood : ∀ r, r < E1.top → GoodR (backN p H.length) E1 (E.back E1 p H.length) r := fun r hr => by
    refine ⟨?_, fun L' h => ⟨L', ?_, .inl rfl⟩, fun b h => ?_⟩
    · show backN p H.length r < H.length + (E1.top - p.length)
      unfold backN
      cases hj : p[r]? with
      | some i => have := hp.lt i (List.mem_of_getElem? hj); simp only; omega
      | none =>
        have hj' : p.length ≤ r := by simpa using hj
        simp only
        omega
    · simpa [Env.back, hsb r] using h
    · simpa [Env.back, hsb r] using h
  have hmm : ∀ b o c, E1.m b o = some c → (E.back E1 p H.length).m b o = some c := fun _ _ _ h => h
  have hev : Evol H.length E (E.back E1 p H.length) := by
    refine ⟨fun i hi L' h => ?_, fun b o c h => R.tr.evol.m b o c h, fun i hi b h => ?_, R.tr.evol.yl⟩
    · simp only [Env.back] at h
      cases hsr : srcN p H.length i with
      | none => rw [hsr] at h; exact ⟨L', h, .inl rfl⟩
      | some j =>
        rw [hsr] at h
        have hmem : i ∈ p := by
          unfold srcN at hsr
          split at hsr
          · assumption
          · first | cases hsr | (rw [if_pos hi] at hsr; cases hsr)
        have hj : j = idx p i := by
          unfold srcN at hsr
          rw [if_pos hmem] at hsr
          exact (Option.some.inj hsr).symm
        subst hj
        obtain ⟨L, h1, h2⟩ := R.tr.evol.loc (idx p i) (by rw [hm0]; exact idx_lt hmem) L' h
        exact ⟨L, by simpa [Env.piece, idx_get hmem] using h1, h2⟩
    · simp only [Env.back] at h
      cases hsr : srcN p H.length i with
      | none => rw [hsr] at h; exact h
      | some j =>
        rw [hsr] at h
        have hmem : i ∈ p := by
          unfold srcN at hsr
          split at hsr
          · assumption
          · first | cases hsr | (rw [if_pos hi] at hsr; cases hsr)
        have hj : j = idx p i := by
          unfold srcN at hsr
          rw [if_pos hmem] at hsr
          exact (Option.some.inj hsr).symm
        subst hj
        have h1 := R.tr.evol.mloc (idx p i) (by rw [hm0]; exact idx_lt hmem) b h
        simpa [Env.piece, idx_get hmem] using h1
  have hinE : ∀ {b o}, InE (E.piece p) b o → InE E b o := fun h => by
    obtain ⟨i, _, L, h1, h2⟩ := inE_piece h
    exact ⟨i, L, h1, h2⟩
  have hinM : ∀ {j}, InM (E.piece p) j → InM E j := fun h => by
    obtain ⟨i, _, h1⟩ := inM_piece h
    exact ⟨i, h1⟩
  -- what lies outside of the piece
  have hroom : ∀ {i L b o}, E.loc i = some L → L.has b o → b < w.heap.size := fun {i L b o} hi hh => by
    obtain ⟨bk, hb⟩ := hs.dead i L hi
    obtain ⟨L2, h1, h2, _⟩ := hs.live i bk hb
    rw [hi] at h1
    obtain rfl := Option.some.inj h1
    obtain ⟨rfl, g1, g2⟩ := hh
    have := (h2.room (o - L.base) (by omega)).1
    obtain ⟨c, hc⟩ := Option.isSome_iff_exists.1 this
    exact World.block_lt_of_cell? w _ hc
  have hout : ∀ {i L b o}, i ∉ p → E.loc i = some L → L.has b o → ¬ InE (E.piece p) b o := fun {i L b o} hi hL hh hin => by
    obtain ⟨k, hk, L2, h1, h2⟩ := inE_piece hin
    exact hs.apart i k L L2 hL h1 (fun he => hi (he ▸ hk)) b o hh h2
  have hmlt : ∀ {i b}, E.mloc i = some b → b < w.heap.size := fun {i b} hi => by
    obtain ⟨es, he⟩ := hs.mdead i b hi
    obtain ⟨b', h1, ⟨vs, clock, h2, _⟩, _⟩ := hs.mlive i es he
    rw [hi] at h1
    obtain rfl := Option.some.inj h1
    rcases Nat.lt_or_ge b w.heap.size with h | h
    · exact h
    · rw [Array.getElem?_eq_none h] at h2; cases h2
  have hmout : ∀ {i b}, i ∉ p → E.mloc i = some b → ¬ InM (E.piece p) b := fun {i b} hi hL hin => by
    obtain ⟨k, hk, h1⟩ := inM_piece hin
    exact hi (hs.mapart i k b hL h1 ▸ hk)
  refine ⟨⟨?_, fun i bk hi => ?_, fun i L hi => ?_, fun i j Li Lj hi hj hij b o hbi hbj => ?_, R.sim.imm, fun b o c hc hin => ?_, fun i bk hi hf => ?_, R.sim.old, fun i es hi => ?_, fun i b hi => ?_, fun i j b hi hj => ?_⟩,
    R.val.ren hmm rfl (fun r hr => hgood r (R.val.refs_lt r hr)),
    ⟨R.tr.below, hev, fun b o hb hn => R.tr.frame b o hb (fun h => hn (hinE h)), fun b o hb h => ?_, fun b o c hb h => (R.tr.imm b o c hb h).imp (fun h => h) hinE, fun j o ho hn hM => R.tr.objs j o ho hn (fun h => hM (hinM h)), fun j hj h => ?_⟩, ?_, fun he i hi b' hb' => ?_⟩
  · show H.length + (E1.top - p.length) = _
    unfold backH
    rw [List.length_append, setAll_length, List.length_map, List.length_drop, htop]
  · rw [backH_blk hp hl] at hi
    simp only [Env.back]
    cases hsr : srcN p H.length i with
    | some j =>
      rw [hsr] at hi
      simp only [Option.map_eq_some_iff] at hi
      obtain ⟨bk1, h1, rfl⟩ := hi
      obtain ⟨L, h2, h3, h4⟩ := R.sim.live j bk1 h1
      exact ⟨L, h2, h3.ren hmm (fun _ r hr => hgood r (h3.refs_lt r hr)) (R.sim.flat j bk1 h1) (fun _ _ => ⟨rfl, rfl⟩), h4⟩
    | none =>
      rw [hsr] at hi
      obtain ⟨hni, hlt⟩ := src_none hsr
      obtain ⟨L, h2, ⟨⟨cs, k1, k2, k3⟩, k4, k5⟩, h4⟩ := hs.live i bk hi
      have hcell : ∀ j, j < L.ext → w'.cell? ⟨L.b, L.base + j, none⟩ = w.cell? ⟨L.b, L.base + j, none⟩ ∧ w'.frozen? ⟨L.b, L.base + j, none⟩ = w.frozen? ⟨L.b, L.base + j, none⟩ := fun j hj =>
        R.tr.frame L.b (L.base + j) (hroom (o := L.base + j) h2 ⟨rfl, by omega, by omega⟩) (hout (o := L.base + j) hni h2 ⟨rfl, by omega, by omega⟩)
      refine ⟨L, h2, ⟨⟨cs, k1.evol hev (by show H.length ≤ H.length + _; omega) (fun r hr => by rw [← hs.top]; exact k1.refs_lt r hr), k2, fun j c hj => ?_⟩, k4, fun j hj => ?_⟩, h4⟩
      · have hlt : j < cs.length := (List.getElem?_eq_some_iff.1 hj).1
        rw [(hcell j (by omega)).1]
        exact k3 j c hj
      · rw [(hcell j hj).1, (hcell j hj).2]
        exact k5 j hj
  · rw [backH_blk hp hl]
    simp only [Env.back] at hi
    cases hsr : srcN p H.length i with
    | some j =>
      rw [hsr] at hi
      obtain ⟨bk, hb⟩ := R.sim.dead j L hi
      refine ⟨renBk (backN p H.length) bk, ?_⟩
      simp only
      rw [hb]
      rfl
    | none =>
      rw [hsr] at hi
      exact hs.dead i L hi
  · simp only [Env.back] at hi hj
    cases hsi : srcN p H.length i with
    | some i1 =>
      rw [hsi] at hi
      cases hsj : srcN p H.length j with
      | some j1 =>
        rw [hsj] at hj
        refine R.sim.apart i1 j1 Li Lj hi hj (fun he => hij ?_) b o hbi hbj
        rw [← back_src hsi, ← back_src hsj, he]
      | none =>
        rw [hsj] at hj
        exact hout (src_none hsj).1 hj hbj (R.tr.ext b o (hroom hj hbj) ⟨i1, Li, hi, hbi⟩)
    | none =>
      rw [hsi] at hi
      cases hsj : srcN p H.length j with
      | some j1 =>
        rw [hsj] at hj
        exact hout (src_none hsi).1 hi hbi (R.tr.ext b o (hroom hi hbi) ⟨j1, Lj, hj, hbj⟩)
      | none =>
        rw [hsj] at hj
        exact hs.apart i j Li Lj hi hj hij b o hbi hbj
  · obtain ⟨i, L, hi, hh⟩ := hin
    simp only [Env.back] at hi
    cases hsi : srcN p H.length i with
    | some i1 =>
      rw [hsi] at hi
      exact R.sim.immApart b o c hc ⟨i1, L, hi, hh⟩
    | none =>
      rw [hsi] at hi
      rcases R.tr.imm b o c (hroom hi hh) hc with h | h
      · exact hs.immApart b o c h ⟨i, L, hi, hh⟩
      · exact hout (src_none hsi).1 hi hh h
  · rw [backH_blk hp hl] at hi
    cases hsr : srcN p H.length i with
    | some j =>
      rw [hsr] at hi
      simp only [Option.map_eq_some_iff] at hi
      obtain ⟨bk1, h1, rfl⟩ := hi
      have h2 := R.sim.flat j bk1 h1
      rw [renBk_refs _ _ h2, h2 (by rw [← renBk_flat (backN p H.length)]; exact hf)]
      rfl
    | none =>
      rw [hsr] at hi
      exact hs.flat i bk hi hf
  · rw [backH_mp hp hl] at hi
    simp only [Env.back]
    cases hsr : srcN p H.length i with
    | some j =>
      rw [hsr] at hi
      exact R.sim.mlive j es hi
    | none =>
      rw [hsr] at hi
      obtain ⟨b, h1, ⟨vs, clock, h2, h3⟩, h4⟩ := hs.mlive i es hi
      exact ⟨b, h1, ⟨vs, clock, R.tr.objs b _ h2 rfl (hmout (src_none hsr).1 h1), h3⟩, h4⟩
  · rw [backH_mp hp hl]
    simp only [Env.back] at hi
    cases hsr : srcN p H.length i with
    | some j =>
      rw [hsr] at hi
      exact R.sim.mdead j b hi
    | none =>
      rw [hsr] at hi
      exact hs.mdead i b hi
  · simp only [Env.back] at hi hj
    cases hsi : srcN p H.length i with
    | some i1 =>
      rw [hsi] at hi
      cases hsj : srcN p H.length j with
      | some j1 =>
        rw [hsj] at hj
        rw [← back_src hsi, ← back_src hsj, R.sim.mapart i1 j1 b hi hj]
      | none =>
        rw [hsj] at hj
        exact absurd (R.tr.extM b (hmlt hj) ⟨i1, hi⟩) (hmout (src_none hsj).1 hj)
    | none =>
      rw [hsi] at hi
      cases hsj : srcN p H.length j with
      | some j1 =>
        rw [hsj] at hj
        exact absurd (R.tr.extM b (hmlt hi) ⟨j1, hj⟩) (hmout (src_none hsi).1 hi)
      | none =>
        rw [hsj] at hj
        exact hs.mapart i j b hi hj
  · obtain ⟨i, L, hi, hh⟩ := h
    simp only [Env.back] at hi
    cases hsi : srcN p H.length i with
    | some i1 =>
      rw [hsi] at hi
      exact hinE (R.tr.ext b o hb ⟨i1, L, hi, hh⟩)
    | none =>
      rw [hsi] at hi
      exact ⟨i, L, hi, hh⟩
  · obtain ⟨i, hi⟩ := h
    simp only [Env.back] at hi
    cases hsi : srcN p H.length i with
    | some i1 =>
      rw [hsi] at hi
      exact hinM (R.tr.extM j hj ⟨i1, hi⟩)
    | none =>
      rw [hsi] at hi
      exact ⟨i, hi⟩
  · unfold backH
    rw [List.length_append, setAll_length]
    omega
  · rw [backH_blk hp hl] at hb'
    cases hsr : srcN p H.length i with
    | none =>
      rw [hsr] at hb'
      exact ⟨b', hb', fun _ h => h⟩
    | some j =>
      rw [hsr] at hb'
      simp only [Option.map_eq_some_iff] at hb'
      obtain ⟨bk1, h1, rfl⟩ := hb'
      have hmem : i ∈ p := by
        unfold srcN at hsr
        split at hsr
        · assumption
        · first | cases hsr | (rw [if_pos hi] at hsr; cases hsr)
      have hj : j = idx p i := by
        unfold srcN at hsr
        rw [if_pos hmem] at hsr
        exact (Option.some.inj hsr).symm
      subst hj
      obtain ⟨b0, k1, k2⟩ := R.sub he (idx p i) (by rw [hm0]; exact idx_lt hmem) bk1 h1
      rw [pieceH_blk, idx_get hmem, Option.bind_some, Option.map_eq_some_iff] at k1
      obtain ⟨b, k3, rfl⟩ := k1
      refine ⟨b, k3, fun x hx => ?_⟩
      rw [renBk_refs _ _ (R.sim.flat _ bk1 h1), List.mem_map] at hx
      obtain ⟨y, hy, rfl⟩ := hx
      have hy2 := k2 y hy
      rw [renBk_refs _ _ (hs.flat i b k3), List.mem_map] at hy2
      obtain ⟨z, hz, rfl⟩ := hy2
      have hzp : z ∈ p := by
        refine hp.closed i hmem b k3 ?_ z hz
        cases hf : b.flat with
        | false => rfl
        | true => rw [hs.flat i b k3 hf] at hz; cases hz
      unfold backN
      rw [idx_get hzp]
      exact hz
end

end Go.X
/-
  Pieces of memory: what is told of calls on a piece of memory, its blocks numbered in the order in which they are met, holds on any memory.
-/
namespace Go.X
open Go.RowKit (Below)

theorem reach_lt {H : Heap} {n : Nat} : ∀ (k : Nat) (todo seen keep : List Nat), reach H 0 k todo seen = some keep → (∀ i bk, H.blk i = some bk → ∀ r ∈ bk.root.refs, r < n) → (∀ i ∈ todo, i < n) → (∀ i ∈ seen, i < n) → seen.Nodup →
    (∀ i ∈ keep, i < n) ∧ keep.Nodup
  | 0, [], seen, keep, h, hb, ht, hs, hn => by
    obtain rfl : seen = keep := by simpa [reach] using h
    exact ⟨hs, hn⟩
  | k + 1, [], seen, keep, h, hb, ht, hs, hn => by
    obtain rfl : seen = keep := by simpa [reach] using h
    exact ⟨hs, hn⟩
  | 0, i :: todo, seen, keep, h, _, _, _, _ => by simp [reach] at h
  | k + 1, i :: todo, seen, keep, h, hb, ht, hs, hn => by
    unfold reach at h
    rw [if_neg (Nat.not_lt_zero i)] at h
    have ht' : ∀ j ∈ todo, j < n := fun j hj => ht j (List.mem_cons_of_mem _ hj)
    split at h
    · exact reach_lt k todo seen keep h hb ht' hs hn
    · rename_i hc
      have hi : i ∉ seen := by simpa using hc
      have hs' : ∀ j ∈ i :: seen, j < n := fun j hj => by
        rcases List.mem_cons.1 hj with rfl | hj
        · exact ht j List.mem_cons_self
        · exact hs j hj
      have hn' : (i :: seen).Nodup := List.nodup_cons.2 ⟨hi, hn⟩
      split at h
      · rename_i b hbk
        refine reach_lt k _ (i :: seen) keep h hb (fun j hj => ?_) hs' hn'
        split at hj
        · exact ht' j hj
        · rcases List.mem_append.1 hj with hj | hj
          · exact hb i b hbk j hj
          · exact ht' j hj
      · exact reach_lt k todo (i :: seen) keep h hb ht' hs' hn'

/-- What the values lead to, in the order in which it is met. -/
def pieceOf (H : Heap) (args : List AV) : Option (List Nat) := (reach H 0 1000 (refsL args) []).map List.reverse

theorem pieceOf_ok {B : Nat} {E : Env} {H : Heap} {w : World} (hs : Sim B E H w) {args : List AV} {p : List Nat} (ha : ∀ r ∈ refsL args, r < H.length) (h : pieceOf H args = some p) : Piece H p ∧ ∀ r ∈ refsL args, r ∈ p := by
  unfold pieceOf at h
  rw [Option.map_eq_some_iff] at h
  obtain ⟨keep, hk, rfl⟩ := h
  obtain ⟨h1, _, h3⟩ := reach_ok _ _ _ _ hk (fun i hi => by simp at hi)
  obtain ⟨h4, h5⟩ := reach_lt (n := H.length) _ _ _ _ hk (fun i bk hb r hr => by
    obtain ⟨L, _, k2, _⟩ := hs.live i bk hb
    rw [← hs.top]
    exact k2.refs_lt r hr) ha (by simp) List.nodup_nil
  refine ⟨⟨by rw [List.Nodup, List.pairwise_reverse]; exact h5.imp Ne.symm, fun i hi => h4 i (by simpa using hi), fun i hi bk hb hf r hr => ?_⟩, fun r hr => ?_⟩
  · rcases h1 i (by simpa using hi) bk hb hf r hr with h | h | h
    · omega
    · simpa using h
    · simp at h
  · rcases h3 r hr with h | h
    · omega
    · simpa using h

/-- An oracle, asked of pieces. -/
def locF (K : Oracle) : Oracle := fun f args H => (pieceOf H args).bind fun p => (K f (renL (idx p) args) (pieceH p H)).map fun r => (r.1.ren (backN p H.length), backH p H r.2.1, r.2.2)

theorem GlobOk.piece {G : Nat → Option AV} {E : Env} (h : GlobOk G E) (p : List Nat) : GlobOk G (E.piece p) := fun g v hg => by
  have h1 := VR.ren (E := E) (E' := E.piece p) (g := idx p) (fun _ _ _ h => h) rfl (h g v hg) (by simp [AV.refs])
  simpa [AV.ren] using h1

theorem loc_sound {P : Program} {G : Nat → Option AV} {K : Oracle} (hK : ∀ B, OracleSound P B G K) (B : Nat) : OracleSound P B G (locF K) := by
  intro f args H v H' e h E w cargs hs hG hl hv
  unfold locF at h
  simp only [Option.bind_eq_some_iff, Option.map_eq_some_iff, Prod.mk.injEq] at h
  obtain ⟨p, hp, ⟨v0, H0, e0⟩, h0, rfl, rfl, rfl⟩ := h
  have hargs : ∀ r ∈ refsL args, r < H.length := fun r hr => by
    have : ∃ v ∈ args, r ∈ v.refs := by
      clear hv hp h0 hl
      induction args with
      | nil => simp [refsL] at hr
      | cons x vs ih =>
        simp only [refsL, List.mem_append] at hr
        rcases hr with hr | hr
        · exact ⟨x, List.mem_cons_self, hr⟩
        · obtain ⟨v, hv, hr⟩ := ih hr
          exact ⟨v, List.mem_cons_of_mem _ hv, hr⟩
    obtain ⟨v, hvm, hr⟩ := this
    obtain ⟨i, hi, hvi⟩ := List.getElem_of_mem hvm
    have hci : cargs[i]? = some cargs[i] := List.getElem?_eq_getElem (by omega)
    rw [← hs.top]
    exact (hv i v _ (by rw [List.getElem?_eq_getElem hi, hvi]) hci).refs_lt r hr
  obtain ⟨hP, hin⟩ := pieceOf_ok hs hargs hp
  refine (hK B f _ _ v0 H0 e0 h0 (E.piece p) w cargs (hs.piece hP) (hG.piece p) (by rw [renL_length]; exact hl) (fun i v c hvi hc => ?_)).mono ?_
  · rw [renL_map, List.getElem?_map, Option.map_eq_some_iff] at hvi
    obtain ⟨u, hu, rfl⟩ := hvi
    exact VR.ren (E := E) (E' := E.piece p) (fun _ _ _ h => h) rfl (hv i u c hu hc) (fun r hr => good_piece (hin r (mem_refsL (List.mem_of_getElem? hu) hr)))
  · rintro en w' ⟨c, E1, rfl, R⟩
    exact ⟨c, _, rfl, piece_back hs hP R⟩

/-! ### Tables, with memory -/

/-- What may come of a call: the first whose test holds: the value, the piece, the mark. -/
abbrev Outs := List (Bool × AV × Heap × Bool)
def pickO : Outs → Option (AV × Heap × Bool)
  | [] => none
  | (b, r) :: l => cond b (some r) (pickO l)

/-- What is told of functions on a piece of memory. -/
abbrev MTab := FuncId → Option (List AV → Heap → Option Outs)

def mOf (T : MTab) : Oracle := fun f args H => match T f with
  | some t => (t args H).bind pickO
  | none => none

def both (T : Table) (M : MTab) : Oracle := fun f args H => match pureK (kOf T) f args H with
  | some r => some r
  | none => locF (mOf M) f args H

structure MemTab (P : Program) (U : Out) (T : Table) (M : MTab) : Prop where
  pure : ∀ B, OracleSound P B U.G (pureK (kOf T))
  mem : ∀ B, OracleSound P B U.G (mOf M)

theorem MemTab.sound {P : Program} {U : Out} {T : Table} {M : MTab} (h : MemTab P U T M) (B : Nat) : OracleSound P B U.G (both T M) := by
  intro f args H v H' e hx
  unfold both at hx
  split at hx
  · rename_i r hr
    obtain rfl := Option.some.inj hx
    exact h.pure B f args H v H' e hr
  · exact loc_sound h.mem B f args H v H' e hx

theorem MemTab.ofFun {P : Program} {U : Out} {T : Table} (h : FunTab P U T) : MemTab P U T (fun _ => none) :=
  ⟨h.ok, fun B f args H v H' e hx => by cases hx⟩

section
variable {R : Type} (bot : R)

def outsK (k : AV → Heap → Bool → R) : Outs → R
  | [] => bot
  | (b, v, H, e) :: l => cond b (k v H e) (outsK k l)

def memK (t : List AV → Heap → Option Outs) : List AV → Heap → (AV → Heap → Bool → R) → R := fun args H k => match pieceOf H args with
  | some p => match t (renL (idx p) args) (pieceH p H) with
    | some l => outsK bot (fun v H1 e => k (v.ren (backN p H.length)) (backH p H H1) e) l
    | none => bot
  | none => bot

theorem outsK_pick (k : AV → Heap → Bool → R) : ∀ (l : Outs), outsK bot k l = (pickO l).elim bot fun r => k r.1 r.2.1 r.2.2
  | [] => rfl
  | (b, v, H, e) :: l => by
    unfold outsK pickO
    cases b
    · exact outsK_pick k l
    · rfl

/-- The evaluator handing on, with both tables. -/
def evalMK (P : Program) (U : Out) (ann : FuncId → FAnn) (fuel : Nat) (T : Table) (M : MTab) : Nat → OracleK R
  | 0 => fun _ _ _ _ => bot
  | n + 1 => fun f args H k => match T f with
    | some t => snapLK bot H args fun xs => match t xs with
      | some (b, v) => cond b (k v H false) bot
      | none => bot
    | none => match M f with
      | some t => memK bot t args H k
      | none => evalFK bot true P U ann fuel (evalN P U ann fuel (both T M) n) (evalMK P U ann fuel T M n) f args H k

theorem evalMK_le {P : Program} {U : Out} {ann : FuncId → FAnn} {fuel : Nat} {T : Table} {M : MTab} : ∀ (n : Nat) (f : FuncId) (args : List AV) (H : Heap) (k : AV → Heap → Bool → R),
    Le bot (evalMK bot P U ann fuel T M n f args H k) (KOf bot (evalN P U ann fuel (both T M) n) f args H k)
  | 0, f, args, H, k => .inl rfl
  | n + 1, f, args, H, k => by
    show Le bot (match T f with
      | some t => snapLK bot H args fun xs => match t xs with
        | some (b, v) => cond b (k v H false) bot
        | none => bot
      | none => match M f with
        | some t => memK bot t args H k
        | none => evalFK bot true P U ann fuel (evalN P U ann fuel (both T M) n) (evalMK bot P U ann fuel T M n) f args H k)
      ((match both T M f args H with | some r => some r | none => evalF P U ann fuel (evalN P U ann fuel (both T M) n) f args H).elim bot fun r => k r.1 r.2.1 r.2.2)
    cases hT : T f with
    | none =>
      have hp : pureK (kOf T) f args H = none := by
        unfold pureK kOf
        rw [hT]
        cases snapL H args <;> rfl
      simp only
      cases hM : M f with
      | none =>
        have : both T M f args H = none := by
          unfold both
          rw [hp]
          simp only
          unfold locF mOf
          rw [hM]
          cases pieceOf H args <;> rfl
        rw [this]
        exact evalFK_le bot true (evalMK_le n) f args H k
      | some t =>
        simp only
        unfold memK
        cases hpc : pieceOf H args with
        | none => exact .inl rfl
        | some p =>
          simp only
          cases ht : t (renL (idx p) args) (pieceH p H) with
          | none => exact .inl rfl
          | some l =>
            simp only
            rw [outsK_pick]
            cases hl : pickO l with
            | none => exact .inl rfl
            | some r =>
              right
              have : both T M f args H = some (r.1.ren (backN p H.length), backH p H r.2.1, r.2.2) := by
                unfold both
                rw [hp]
                simp only
                unfold locF mOf
                rw [hM, hpc]
                simp [ht, hl]
              rw [this]
              rfl
    | some t =>
      simp only
      refine (snapLK_le bot H args _).trans bot ?_
      cases hs : snapL H args with
      | none => exact .inl rfl
      | some xs =>
        simp only [Option.elim_some]
        cases ht : t xs with
        | none => exact .inl rfl
        | some r =>
          obtain ⟨b, v⟩ := r
          cases b
          · exact .inl rfl
          · right
            have : both T M f args H = some (v, H, false) := by
              unfold both
              have : pureK (kOf T) f args H = some (v, H, false) := by
                unfold pureK kOf
                simp [hs, hT, ht]
              rw [this]
            rw [this]
            rfl
end

theorem evalN_of_M {P : Program} {U : Out} {ann : FuncId → FAnn} {fuel n : Nat} {T : Table} {M : MTab} {f : FuncId} {args : List AV} {H : Heap} {r : AV × Heap × Bool}
    (h : evalMK none P U ann fuel T M n f args H (fun v H e => some (v, H, e)) = some r) : evalN P U ann fuel (both T M) n f args H = some r := by
  rcases evalMK_le (R := Option (AV × Heap × Bool)) none (P := P) (U := U) (ann := ann) (fuel := fuel) (T := T) (M := M) n f args H (fun v H e => some (v, H, e)) with h1 | h1
  · rw [h] at h1; cases h1
  · rw [h] at h1
    unfold KOf at h1
    cases hx : evalN P U ann fuel (both T M) n f args H with
    | none => rw [hx] at h1; cases h1
    | some x => rw [hx] at h1; exact h1.symm

theorem run_of_trueM {P : Program} {U : Out} {ann : FuncId → FAnn} {fuel n : Nat} {T : Table} {M : MTab} {f : FuncId} {args : List AV} {H : Heap}
    (h : evalMK false P U ann fuel T M n f args H (fun v _ _ => v.isTrue) = true) : ∃ H' e, evalN P U ann fuel (both T M) n f args H = some (.bool true, H', e) := by
  rcases evalMK_le (R := Bool) false (P := P) (U := U) (ann := ann) (fuel := fuel) (T := T) (M := M) n f args H (fun v _ _ => v.isTrue) with h1 | h1
  · rw [h] at h1; cases h1
  rw [h1] at h
  unfold KOf at h
  cases hx : evalN P U ann fuel (both T M) n f args H with
  | none => rw [hx] at h; simp at h
  | some r =>
    obtain ⟨v, H', e⟩ := r
    rw [hx] at h
    simp only [Option.elim_some] at h
    cases v <;> simp [AV.isTrue] at h
    subst h
    exact ⟨H', e, rfl⟩

/-- One function more, that only looks, whatever way it was found. -/
theorem MemTab.addN {P : Program} {U : Out} {ann : FuncId → FAnn} {fuel n : Nat} {T : Table} {M : MTab} (hT : MemTab P U T M) (hX : ∀ B, ExtSound P B U.X) (hm : P.follows .mixedOrders = true) (hA : ∀ f, funcOk P (ann f) f = true)
    {g : FuncId} {t : List AV → Option (Bool × AV)} (h : ∀ xs v, t xs = some (true, v) → v.cleanR = true ∧ ∃ H' e, evalN P U ann fuel (both T M) n g xs [] = some (v, H', e)) :
    MemTab P U (fun f => if f = g then some t else T f) M := by
  refine ⟨fun B => ?_, hT.mem⟩
  have h1 : OracleSound P B U.G (pureK fun f xs => if f = g then (match t xs with | some (true, v) => some v | _ => Option.none) else Option.none) :=
    pure_sound hT.sound hX hm hA (fun f xs v hv => by
      split at hv
      · rename_i hf
        subst hf
        split at hv
        · rename_i v' hv'
          obtain rfl := Option.some.inj hv
          exact h xs v' hv'
        · cases hv
      · cases hv) B
  intro f args H v H' e hx
  by_cases hf : f = g
  · refine h1 f args H v H' e ?_
    rw [← hx]
    unfold pureK kOf
    simp only [if_pos hf]
    all_goals rfl
  · refine hT.pure B f args H v H' e ?_
    rw [← hx]
    unfold pureK kOf
    simp only [if_neg hf]

theorem MemTab.add {P : Program} {U : Out} {ann : FuncId → FAnn} {fuel n : Nat} {T : Table} {M : MTab} (hT : MemTab P U T M) (hX : ∀ B, ExtSound P B U.X) (hm : P.follows .mixedOrders = true) (hA : ∀ f, funcOk P (ann f) f = true)
    {g : FuncId} {t : List AV → Option (Bool × AV)} (h : ∀ xs v, t xs = some (true, v) → v.cleanR = true ∧ ∃ H' e, evalMK Option.none P U ann fuel T M n g xs [] (fun v H e => some (v, H, e)) = some (v, H', e)) :
    MemTab P U (fun f => if f = g then some t else T f) M :=
  hT.addN hX hm hA (fun xs v hv => by
    obtain ⟨h1, H', e, h2⟩ := h xs v hv
    exact ⟨h1, H', e, evalN_of_M h2⟩)

/-- One function more, memory and all. -/
theorem MemTab.addMem {P : Program} {U : Out} {ann : FuncId → FAnn} {fuel n : Nat} {T : Table} {M : MTab} (hT : MemTab P U T M) (hX : ∀ B, ExtSound P B U.X) (hm : P.follows .mixedOrders = true) (hA : ∀ f, funcOk P (ann f) f = true)
    {g : FuncId} {t : List AV → Heap → Option Outs} (h : ∀ args H r, (t args H).bind pickO = some r → evalN P U ann fuel (both T M) n g args H = some r) :
    MemTab P U T (fun f => if f = g then some t else M f) := by
  refine ⟨hT.pure, fun B f args H v H' e hx => ?_⟩
  by_cases hf : f = g
  · subst hf
    unfold mOf at hx
    simp only [if_true] at hx
    intro E w cargs hs hG hl hv
    exact evalN_ok (hT.sound B) (hX B) hm hA n f args H v H' e (h args H _ hx) E w cargs hs hG hl hv
  · refine hT.mem B f args H v H' e ?_
    rw [← hx]
    unfold mOf
    simp only [if_neg hf]

/-- One function more, found sound in any way. -/
theorem MemTab.addS {P : Program} {U : Out} {T : Table} {M : MTab} (hT : MemTab P U T M) {g : FuncId} {t : List AV → Heap → Option Outs}
    (h : ∀ B, OracleSound P B U.G (fun f args H => if f = g then (t args H).bind pickO else Option.none)) :
    MemTab P U T (fun f => if f = g then some t else M f) := by
  refine ⟨hT.pure, fun B f args H v H' e hx => ?_⟩
  by_cases hf : f = g
  · refine h B f args H v H' e ?_
    rw [← hx]
    unfold mOf
    simp only [if_pos hf]
  · refine hT.mem B f args H v H' e ?_
    rw [← hx]
    unfold mOf
    simp only [if_neg hf]

end Go.X
/-
  Functions told by families: for each member the arguments, the piece of memory, and what comes of them; and what loads and stores at a place come to.
-/
namespace Go.X
open Classical

/-- What is told of a function, for each member of a family. -/
structure Fam (ι : Type) where
  A : ι → List AV
  HH : ι → Heap
  pre : ι → Prop
  outs : ι → Outs
  inj : ∀ i j, A i = A j → HH i = HH j → i = j
  dft : ι

namespace Fam
variable {ι : Type} (S : Fam ι)

noncomputable def tst (args : List AV) (H : Heap) : Bool := decide (∃ i, S.pre i ∧ args = S.A i ∧ H = S.HH i)
noncomputable def par (args : List AV) (H : Heap) : ι := if h : ∃ i, args = S.A i ∧ H = S.HH i then Classical.choose h else S.dft
noncomputable def entry : List AV → Heap → Option Outs := fun args H => some ((S.outs (S.par args H)).map fun x => (S.tst args H && x.1, x.2))

theorem tst_at (i : ι) (h : S.pre i) : S.tst (S.A i) (S.HH i) = true := decide_eq_true ⟨i, h, rfl, rfl⟩
theorem par_at (i : ι) : S.par (S.A i) (S.HH i) = i := by
  have h : ∃ j, S.A i = S.A j ∧ S.HH i = S.HH j := ⟨i, rfl, rfl⟩
  unfold par
  rw [dif_pos h]
  obtain ⟨h1, h2⟩ := Classical.choose_spec h
  exact (S.inj _ _ h1 h2).symm

theorem pick_and (b : Bool) : ∀ (l : Outs) (r : AV × Heap × Bool), pickO (l.map fun x => (b && x.1, x.2)) = some r → b = true ∧ pickO l = some r
  | [], r, h => by cases h
  | (c, s) :: l, r, h => by
    unfold pickO at h ⊢
    simp only [List.map_cons] at h
    cases b with
    | false =>
      simp only [Bool.false_and, cond_false] at h
      exact absurd (pick_and false l r (by simpa using h)).1 (by simp)
    | true =>
      refine ⟨rfl, ?_⟩
      cases c with
      | false =>
        simp only [Bool.true_and, cond_false] at h ⊢
        exact (pick_and true l r (by simpa using h)).2
      | true => simpa using h

theorem entry_true {args : List AV} {H : Heap} {r : AV × Heap × Bool} (h : (S.entry args H).bind pickO = some r) : ∃ i, S.pre i ∧ args = S.A i ∧ H = S.HH i ∧ pickO (S.outs i) = some r := by
  unfold entry at h
  rw [Option.bind_some] at h
  obtain ⟨h1, h2⟩ := pick_and _ _ _ h
  obtain ⟨i, hp, rfl, rfl⟩ := of_decide_eq_true h1
  exact ⟨i, hp, rfl, rfl, by rw [S.par_at] at h2; exact h2⟩
end Fam

/-- One function more, of a family. -/
theorem MemTab.addFam {P : Program} {U : Out} {ann : FuncId → FAnn} {fuel n : Nat} {T : Table} {M : MTab} (hT : MemTab P U T M) (hX : ∀ B, ExtSound P B U.X) (hm : P.follows .mixedOrders = true) (hA : ∀ f, funcOk P (ann f) f = true)
    {g : FuncId} {ι : Type} (S : Fam ι) (h : ∀ i, S.pre i → evalMK Option.none P U ann fuel T M n g (S.A i) (S.HH i) (fun v H e => some (v, H, e)) = pickO (S.outs i)) :
    MemTab P U T (fun f => if f = g then some S.entry else M f) :=
  hT.addMem hX hm hA (fun args H r he => by
    obtain ⟨i, hp, rfl, rfl, h3⟩ := S.entry_true he
    exact evalN_of_M ((h i hp).trans h3))

/-! Loads and stores at a place of an array. -/
theorem ld_arr {P : Program} {H : Heap} {t : TypeId} {id coff j g e : Nat} {xs : List AV} {gr fl : Bool} {x : AV} (hb : H.blk id = some ⟨.arr e xs, gr, fl⟩) (hg : e * xs.length = g) (hc : coff = e * j) (hx : xs[j]? = some x)
    (ht : tagg P t = some x.isAgg) (hs : tsize P t = some x.flatLen) : loadAV P H t (.ptr ⟨id, coff, [j], g⟩) = some x := by
  have hat : (AV.arr e xs).at? [j] = some (e * j, x) := by
      simp [AV.at?, hx]
  have hfl : (AV.arr e xs).flatLen = g := hg
  simp only [loadAV, hb, hat, Option.bind_some, hfl, hc, ht, hs]
  simp

theorem st_arr {P : Program} {H : Heap} {t : TypeId} {id coff j g e : Nat} {xs : List AV} {gr fl : Bool} {x v : AV} (hb : H.blk id = some ⟨.arr e xs, gr, fl⟩) (hg : e * xs.length = g) (hc : coff = e * j) (hx : xs[j]? = some x)
    (hv : v.plain = true) (hs : tsize P t = some v.flatLen) (hl : x.flatLen = v.flatLen) : storeAV P H t (.ptr ⟨id, coff, [j], g⟩) v = some (H.set id (some ⟨.arr e (xs.set j v), gr, fl && v.refless⟩)) := by
  have hat : (AV.arr e xs).at? [j] = some (e * j, x) := by simp [AV.at?, hx]
  have hput : (AV.arr e xs).put? [j] v = some (.arr e (xs.set j v)) := by simp [AV.put?, hx, hl]
  have hfl : (AV.arr e xs).flatLen = g := hg
  simp only [storeAV, hb, hat, hput, Option.bind_some, hfl, hc, hs, hv]
  simp

/-- A field of an element. -/
theorem ld_fld {P : Program} {H : Heap} {t : TypeId} {id coff j f g e n : Nat} {xs ps : List AV} {gr fl : Bool} {x : AV} (hb : H.blk id = some ⟨.arr e xs, gr, fl⟩) (hg : e * xs.length = g) (hx : xs[j]? = some (.agg n ps)) (hp : ps[f]? = some x) (hc : coff = e * j + sumLen (ps.take f))
    (ht : tagg P t = some x.isAgg) (hs : tsize P t = some x.flatLen) : loadAV P H t (.ptr ⟨id, coff, [j, f], g⟩) = some x := by
  have hat : (AV.arr e xs).at? [j, f] = some (e * j + sumLen (ps.take f), x) := by simp [AV.at?, hx, hp]
  have hfl : (AV.arr e xs).flatLen = g := hg
  simp only [loadAV, hb, hat, Option.bind_some, hfl, hc, ht, hs]
  simp

theorem st_fld {P : Program} {H : Heap} {t : TypeId} {id coff j f g e n : Nat} {xs ps : List AV} {gr fl : Bool} {x v : AV} (hb : H.blk id = some ⟨.arr e xs, gr, fl⟩) (hg : e * xs.length = g) (hx : xs[j]? = some (.agg n ps)) (hp : ps[f]? = some x) (hc : coff = e * j + sumLen (ps.take f))
    (hv : v.plain = true) (hs : tsize P t = some v.flatLen) (hl : x.flatLen = v.flatLen) : storeAV P H t (.ptr ⟨id, coff, [j, f], g⟩) v = some (H.set id (some ⟨.arr e (xs.set j (.agg n (ps.set f v))), gr, fl && v.refless⟩)) := by
  have hat : (AV.arr e xs).at? [j, f] = some (e * j + sumLen (ps.take f), x) := by simp [AV.at?, hx, hp]
  have hput : (AV.arr e xs).put? [j, f] v = some (.arr e (xs.set j (.agg n (ps.set f v)))) := by simp [AV.put?, hx, hp, hl]
  have hfl : (AV.arr e xs).flatLen = g := hg
  simp only [storeAV, hb, hat, hput, Option.bind_some, hfl, hc, hs, hv]
  simp

theorem proj1 (j : Nat) (e : Nat) (xs : List AV) : projT [j] (.arr e xs) = (xs[j]?).getD .bad := rfl

/-- Wrapped, of what is small. -/
theorem wrapS {i : Nat} (h : i < 2 ^ 62) : IntKind.i64.wrap ((i : Int) + 1) = ((i + 1 : Nat) : Int) := by
  rw [IntKind.wrap_i64]
  omega
end Go.X
/-
  A function, gone on with at a place of its text.
-/
namespace Go.X
section
variable {R : Type} (bot : R) (sym : Bool)
def gotoCK (C : Ctx) (KK : OracleK R) (fuel : Nat) : List Bool → Nat → Code → St → (Ex → St → R) → R
  | p, _, .block id c, s, k => gotoCK C KK fuel p id c s fun e s => match e with
      | .exit i => if i = id then k .normal s else k (.exit i) s
      | .normal => k .normal s
      | .ret => k .ret s
  | false :: p, cur, .seq a b, s, k => gotoCK C KK fuel p cur a s fun e s => match e with
      | .normal => evalCK bot sym C KK fuel cur b s k
      | .exit i => k (.exit i) s
      | .ret => k .ret s
  | true :: p, cur, .seq _ b, s, k => gotoCK C KK fuel p cur b s k
  | false :: p, cur, .cond _ a _, s, k => gotoCK C KK fuel p cur a s k
  | true :: p, cur, .cond _ _ b, s, k => gotoCK C KK fuel p cur b s k
  | [], cur, c, s, k => evalCK bot sym C KK fuel cur c s k
  | _, _, _, _, _ => bot
def gotoFK (P : Program) (U : Out) (ann : FuncId → FAnn) (fuel : Nat) (K : Oracle) (KK : OracleK R) (f : FuncId) (nargs n0 : Nat) (p : List Bool) (s : St) (k : AV → Heap → Bool → R) : R :=
  match P.funcs[f]? with
  | some fn => match fn.body with
    | some c =>
      let C : Ctx := ⟨P, K, n0, max fn.ntmps nargs, ann f, U, noY, evalI P U ann fuel K⟩
      gotoCK bot sym C KK fuel p 0 c s (finK bot C fn n0 k)
    | none => bot
  | none => bot
end
end Go.X
/-
  Integers sorted in place: what the shelf's contract says of the world, said of memory.
-/
namespace Go.X
open Go.RowKit (Below)
open Go.Sort

def intsL (zs : List Int) : List AV := zs.map fun z => .int .i64 z
def sortZ (zs : List Int) : List Int := zs.mergeSort fun x y => decide (x ≤ y)
def toInts (xs : List AV) : List Int := xs.map AV.toInt

theorem toInts_ints (zs : List Int) : toInts (intsL zs) = zs := by
  unfold toInts intsL
  rw [List.map_map]
  exact List.map_id'' (fun _ => rfl) zs
theorem intsL_of {xs : List AV} (h : xs.all (fun x => x.isIntK .i64) = true) : intsL (toInts xs) = xs := by
  unfold toInts intsL
  rw [List.map_map]
  refine (List.map_congr_left fun x hx => ?_).trans (List.map_id xs)
  have := List.all_eq_true.1 h x hx
  cases x <;> simp only [AV.isIntK, reduceCtorEq, beq_iff_eq] at this
  subst this
  rfl
theorem sortZ_length (zs : List Int) : (sortZ zs).length = zs.length := by simp [sortZ]

theorem FR.intsL {E : Env} : ∀ {zs : List Int} {cs : List Value}, FR E (intsL zs) cs → cs = zs.map (Value.int .i64)
  | [], cs, h => by
    have : FR E [] cs := h
    cases this
    rfl
  | z :: zs, cs, h => by
    have h' : FR E (.int .i64 z :: Go.X.intsL zs) cs := h
    cases h' with
    | int h1 => rw [FR.intsL h1]; rfl
theorem FR.ofInts {E : Env} : ∀ (zs : List Int), FR E (Go.X.intsL zs) (zs.map (Value.int .i64))
  | [] => .nil
  | _ :: zs => .int (FR.ofInts zs)

/-- What sorting comes to. -/
def sortT : List AV → Heap → Option (Bool × AV × Heap × Bool) := fun args H => match args with
  | [.sl p e n off len] => match H.blk p.id with
    | some ⟨.arr e' xs, g, fl⟩ => some (decide (p.path = [] ∧ p.coff = 0 ∧ e = 1 ∧ e' = 1 ∧ fl = true ∧ xs.length = p.gen ∧ xs.length = n ∧ 0 < len ∧ off + len ≤ n ∧ len < 4611686018427387904) && ((xs.drop off).take len).all (fun x => x.isIntK .i64),
        .tuple [], H.set p.id (some ⟨.arr 1 (setMany xs off (intsL (sortZ (toInts ((xs.drop off).take len))))), g, true⟩), false)
    | _ => none
  | _ => none

theorem sort_sound {P : Program} {G : Nat → Option AV} {f : FuncId}
    (hC : ∀ (blk off cap : Nat) (zs : List Int) (w : World), Holds (Value.int .i64) w blk off zs.toArray → blk < w.heap.size → zs.length < 4611686018427387904 →
      Calls P f #[.slice (some ⟨blk, off, none⟩) zs.length cap] w fun e w' => e = .returned (.tuple #[]) ∧ ∃ n os, w' = grow (putRow (Value.int .i64) (Sort.ahead w n) blk off (zs.mergeSort fun x y => decide (x ≤ y)).toArray) os) (B : Nat) :
    OracleSound P B G (fun g args H => if g = f then (match sortT args H with | some (true, r) => some r | _ => none) else none) := by
  intro g args H v H' e h E w cargs hs hG hl hv
  simp only at h
  split at h
  · rename_i hg
    subst hg
    split at h
    · rename_i r hr
      obtain rfl := Option.some.inj h
      unfold sortT at hr
      split at hr
      · rename_i p e n off len
        split at hr
        · rename_i e' xs gr fl hb
          simp only [Option.some.injEq, Prod.mk.injEq, Bool.and_eq_true, decide_eq_true_eq] at hr
          obtain ⟨⟨⟨hp, hco, rfl, rfl, rfl, hgen, rfl, hpos, hle, hbig⟩, hall⟩, rfl, rfl, rfl⟩ := hr
          -- the slice
          obtain ⟨cx, rfl⟩ : ∃ cx, cargs = [cx] := by
            cases cargs with
            | nil => simp at hl
            | cons c r => cases r with
              | nil => exact ⟨c, rfl⟩
              | cons _ _ => simp at hl
          have hx : PR E (.sl p 1 xs.length off len) cx := hv 0 _ _ rfl rfl
          obtain ⟨L, hL, hB, hBL⟩ := hs.live _ _ hb
          obtain ⟨cs, hfr, hlen, hcells⟩ := hB.cs
          obtain ⟨hxs, _⟩ := FR.arr_inv (show FR E [.arr 1 xs] cs from hfr)
          have hcl : cs.length = xs.length := by rw [hfr.length]; simp [sumLen, AV.flatLen]
          obtain ⟨a, cap, rfl, h1, hcap, h2⟩ := PR.sl_inv hx
          have hLg : L.gen = xs.length := by rw [← hlen, hcl]
          have ha : a = ⟨L.b, L.base + off, none⟩ := by
            rcases h2 L hL with h | ⟨_, _, _, h⟩
            · omega
            · rcases h with h | h
              · omega
              · rw [h, hco]; simp
          subst ha
          -- its cells
          have hseg : xs = xs.take off ++ ((xs.drop off).take len ++ (xs.drop off).drop len) := by rw [List.take_append_drop, List.take_append_drop]
          have hxs' := hxs
          rw [hseg] at hxs'
          obtain ⟨c0, c2, hc02, k0, k1⟩ := hxs'.append_inv
          obtain ⟨c3, c4, rfl, k2, k3⟩ := k1.append_inv
          subst hc02
          generalize hzs : toInts ((xs.drop off).take len) = zs
          have hsegz : (xs.drop off).take len = Go.X.intsL zs := by rw [← hzs, intsL_of hall]
          rw [hsegz] at k2
          have hc3 := FR.intsL k2
          subst hc3
          have hzl : zs.length = len := by
            rw [← hzs]
            simp [toInts]
            omega
          have hl0 : c0.length = off := by
            have : ∀ u ∈ xs.take off, u.flatLen = 1 := fun u hu => (FR.arr_inv (show FR E [.arr 1 xs] _ from hfr)).2 u (List.mem_of_mem_take hu)
            rw [k0.length, sumLen_same this]
            simp
            omega
          have hbase : ∀ j c, (c0 ++ (zs.map (Value.int .i64) ++ c4))[j]? = some c → w.cell? ⟨L.b, L.base + j, none⟩ = some c := hcells
          have hholds : Holds (Value.int .i64) w L.b (L.base + off) zs.toArray := by
            intro j hj
            have hj' : j < zs.length := by simpa using hj
            refine ⟨?_, ?_⟩
            · have := hbase (off + j) (Value.int .i64 zs[j]) (by
                rw [List.getElem?_append_right (by omega), show off + j - c0.length = j by omega, List.getElem?_append_left (by simpa using hj')]
                simp [hj'])
              rw [show L.base + off + j = L.base + (off + j) by omega, this]
              simp [hj']
            · rw [show L.base + off + j = L.base + (off + j) by omega]
              exact (hB.room (off + j) (by have := hB.fits; omega)).2
          have hblk : L.b < w.heap.size := hs.loc_lt hL (j := 0) (by have := hB.fits; omega)
          have hcall := hC L.b (L.base + off) cap zs w hholds hblk (by omega)
          rw [hzl] at hcall
          refine hcall.mono ?_
          rintro en w' ⟨rfl, m, os, rfl⟩
          have hsz : ((zs.mergeSort fun x y => decide (x ≤ y)).toArray).size = zs.toArray.size := by simp
          have hh' : Holds (Value.int .i64) (Sort.ahead w m) L.b (L.base + off) zs.toArray := hholds
          have hcp : ∀ j, j < zs.length → (putRow (Value.int .i64) (Sort.ahead w m) L.b (L.base + off) (zs.mergeSort fun x y => decide (x ≤ y)).toArray).cell? ⟨L.b, L.base + off + j, none⟩ = some (Value.int .i64 ((zs.mergeSort fun x y => decide (x ≤ y)).toArray)[j]!) := fun j hj =>
            cell?_putRow (Value.int .i64) (Sort.ahead w m) L.b (L.base + off) zs.toArray _ hh' hsz j (by simpa using hj)
          have hco' : ∀ b o, (b ≠ L.b ∨ o < L.base + off ∨ L.base + off + zs.length ≤ o) → (putRow (Value.int .i64) (Sort.ahead w m) L.b (L.base + off) (zs.mergeSort fun x y => decide (x ≤ y)).toArray).cell? ⟨b, o, none⟩ = w.cell? ⟨b, o, none⟩ := fun b o h =>
            cell?_putRow_other (Value.int .i64) (Sort.ahead w m) L.b (L.base + off) _ ⟨b, o, none⟩ (by simpa using h)
          have hfits := hB.fits
          have hw := hs.write (w' := putRow (Value.int .i64) (Sort.ahead w m) L.b (L.base + off) (zs.mergeSort fun x y => decide (x ≤ y)).toArray) (r := .arr 1 (setMany xs off (Go.X.intsL (sortZ zs)))) (g := gr) (fl := true)
            (cs' := c0 ++ ((sortZ zs).map (Value.int .i64) ++ c4)) hb hL
            (by
              have hx1 : FR E (setMany xs off (Go.X.intsL (sortZ zs))) (c0 ++ ((sortZ zs).map (Value.int .i64) ++ c4)) := by
                unfold setMany
                rw [List.append_assoc]
                refine FR.append k0 (FR.append (FR.ofInts _) ?_)
                have : (Go.X.intsL (sortZ zs)).length = len := by simp [Go.X.intsL, sortZ_length, hzl]
                rw [this]
                simpa [List.drop_drop] using k3
              have := FR.arr (e := 1) hx1 (fun u hu => ?_) FR.nil
              · simpa using this
              · unfold setMany at hu
                rcases List.mem_append.1 hu with hu | hu
                · rcases List.mem_append.1 hu with hu | hu
                  · exact (FR.arr_inv (show FR E [.arr 1 xs] _ from hfr)).2 u (List.mem_of_mem_take hu)
                  · obtain ⟨z, _, rfl⟩ := List.mem_map.1 hu
                    rfl
                · exact (FR.arr_inv (show FR E [.arr 1 xs] _ from hfr)).2 u (List.mem_of_mem_drop hu))
            (by
              rw [← hlen]
              simp [sortZ_length])
            (fun _ => by
              have h0 : refsL xs = [] := hs.flat _ _ hb rfl
              show refsL (setMany xs off (Go.X.intsL (sortZ zs))) = []
              have hmem : ∀ (l : List AV), (∀ u ∈ l, u.refs = []) → refsL l = [] := fun l => by
                induction l with
                | nil => intro _; rfl
                | cons x l ih => intro h; rw [refsL, h x List.mem_cons_self, ih fun u hu => h u (List.mem_cons_of_mem _ hu)]; rfl
              have hxm : ∀ u ∈ xs, u.refs = [] := fun u hu => by
                cases hr : u.refs with
                | nil => rfl
                | cons r t =>
                  have := mem_refsL hu (show r ∈ u.refs by rw [hr]; exact List.mem_cons_self)
                  rw [h0] at this
                  cases this
              refine hmem _ fun u hu => ?_
              unfold setMany at hu
              rcases List.mem_append.1 hu with hu | hu
              · rcases List.mem_append.1 hu with hu | hu
                · exact hxm u (List.mem_of_mem_take hu)
                · obtain ⟨z, _, rfl⟩ := List.mem_map.1 hu
                  rfl
              · exact hxm u (List.mem_of_mem_drop hu))
            (fun j c hj => by
              rcases Nat.lt_or_ge j off with h1 | h1
              · rw [List.getElem?_append_left (by omega)] at hj
                rw [hco' _ _ (by omega)]
                exact hbase j c (by rw [List.getElem?_append_left (by omega)]; exact hj)
              · rw [List.getElem?_append_right (by omega), hl0] at hj
                rcases Nat.lt_or_ge (j - off) zs.length with h2 | h2
                · rw [List.getElem?_append_left (by simpa [sortZ_length] using h2)] at hj
                  rw [show L.base + j = L.base + off + (j - off) by omega, hcp _ h2]
                  rw [List.getElem?_map] at hj
                  have h3 : j - off < (sortZ zs).length := by rw [sortZ_length]; exact h2
                  rw [List.getElem?_eq_getElem h3, Option.map_some] at hj
                  rw [← hj]
                  have h4 : j - off < (zs.mergeSort fun x y => decide (x ≤ y)).length := h3
                  simp only [sortZ, List.getElem!_toArray, List.getElem!_eq_getElem?_getD, List.getElem?_eq_getElem h4, Option.getD_some]
                · rw [List.getElem?_append_right (by simpa [sortZ_length] using h2)] at hj
                  rw [hco' _ _ (by omega)]
                  refine hbase j c ?_
                  rw [List.getElem?_append_right (by omega), hl0, List.getElem?_append_right (by simpa using h2)]
                  simpa [sortZ_length] using hj)
            (fun j hj => by
              rcases Nat.lt_or_ge j off with h1 | h1
              · rw [hco' _ _ (by omega)]; exact (hB.room j hj).1
              · rcases Nat.lt_or_ge (j - off) zs.length with h2 | h2
                · rw [show L.base + j = L.base + off + (j - off) by omega, hcp _ h2]; rfl
                · rw [hco' _ _ (by omega)]; exact (hB.room j hj).1)
            (fun b o hn => hco' b o (by
              by_cases hbb : b = L.b
              · subst hbb
                right
                rcases Nat.lt_or_ge o (L.base + off) with h | h
                · exact .inl h
                · right
                  rcases Nat.lt_or_ge o (L.base + off + zs.length) with h' | h'
                  · exact absurd ⟨rfl, by omega, by omega⟩ hn
                  · exact h'
              · exact .inl hbb))
            (fun b o => by rw [frozen?_putRow]; rfl)
            ⟨⟨rfl, rfl, rfl, by rw [size_putRow]; exact Nat.le_refl _, fun k hk => by
                show (putRow (Value.int .i64) (Sort.ahead w m) L.b (L.base + off) _).heap[k]? = w.heap[k]?
                unfold putRow mapBlock
                simp only [Array.getElem?_modify]
                rw [if_neg (by omega)]
                rfl⟩, fun j o ho hn => by
                show (putRow (Value.int .i64) (Sort.ahead w m) L.b (L.base + off) _).heap[j]? = some o
                unfold putRow mapBlock
                simp only [Array.getElem?_modify]
                have ho' : (Sort.ahead w m).heap[j]? = some o := ho
                rw [ho']
                split
                · cases o <;> simp [notCells] at hn <;> rfl
                · rfl⟩
          have hbel : Below (putRow (Value.int .i64) (Sort.ahead w m) L.b (L.base + off) (zs.mergeSort fun x y => decide (x ≤ y)).toArray).heap.size (putRow (Value.int .i64) (Sort.ahead w m) L.b (L.base + off) (zs.mergeSort fun x y => decide (x ≤ y)).toArray)
              (grow (putRow (Value.int .i64) (Sort.ahead w m) L.b (L.base + off) (zs.mergeSort fun x y => decide (x ≤ y)).toArray) os) :=
            ⟨rfl, rfl, rfl, by rw [size_grow]; omega, fun k hk => by
              show (_ ++ os)[k]? = _
              rw [Array.getElem?_append_left hk]⟩
          refine ⟨.tuple #[], E, rfl, ⟨hw.1.stays hbel, ⟨[], rfl, rfl, by simp⟩, (hw.2 _).trans (Tr.stays hw.1 hbel), by simp, fun _ => ?_⟩⟩
          refine Sub.set hb fun _ b hb' y hy => ?_
          obtain rfl := Option.some.inj hb'
          exfalso
          have : (AV.arr 1 (setMany xs off (Go.X.intsL (sortZ zs)))).refs = [] := hw.1.flat p.id ⟨_, gr, true⟩ (by rw [Heap.blk_set (Heap.blk_some hb) (fun b hb => by obtain rfl := Option.some.inj hb; rfl)]; simp) rfl
          rw [this] at hy
          cases hy
        · cases hr
      · cases hr
    · cases h
  · cases h
end Go.X
/-
  Functions that read only: the memory that comes of them is the memory given.
-/
namespace Go.X
open Classical
namespace Fam
variable {ι : Type} (S : Fam ι)
/-- What is told: the members' arguments and memories alone; the value is a function of both; the memory is what it was. -/
noncomputable def entryV (v : List AV → Heap → AV) : List AV → Heap → Option Outs := fun args H => some [(S.tst args H, v args H, H, false)]
theorem entryV_true {v : List AV → Heap → AV} {args : List AV} {H : Heap} {r : AV × Heap × Bool} (h : (S.entryV v args H).bind pickO = some r) : ∃ i, S.pre i ∧ args = S.A i ∧ H = S.HH i ∧ r = (v args H, H, false) := by
  unfold entryV at h
  rw [Option.bind_some, pickO] at h
  cases ht : S.tst args H with
  | false => rw [ht] at h; simp [pickO] at h
  | true =>
    rw [ht] at h
    obtain ⟨i, hp, h1, h2⟩ := of_decide_eq_true ht
    exact ⟨i, hp, h1, h2, by simpa using h.symm⟩
/-- Functions that write: what comes of them, by the arguments and the memory. -/
noncomputable def entryW (v : List AV → Heap → AV) (w : List AV → Heap → Heap) : List AV → Heap → Option Outs := fun args H => some [(S.tst args H, v args H, w args H, false)]
theorem entryW_true {v : List AV → Heap → AV} {w : List AV → Heap → Heap} {args : List AV} {H : Heap} {r : AV × Heap × Bool} (h : (S.entryW v w args H).bind pickO = some r) : ∃ i, S.pre i ∧ args = S.A i ∧ H = S.HH i ∧ r = (v args H, w args H, false) := by
  unfold entryW at h
  rw [Option.bind_some, pickO] at h
  cases ht : S.tst args H with
  | false => rw [ht] at h; simp [pickO] at h
  | true =>
    rw [ht] at h
    obtain ⟨i, hp, h1, h2⟩ := of_decide_eq_true ht
    exact ⟨i, hp, h1, h2, by simpa using h.symm⟩
end Fam
theorem MemTab.addRead {P : Program} {U : Out} {ann : FuncId → FAnn} {fuel n : Nat} {T : Table} {M : MTab} (hT : MemTab P U T M) (hX : ∀ B, ExtSound P B U.X) (hm : P.follows .mixedOrders = true) (hA : ∀ f, funcOk P (ann f) f = true)
    {g : FuncId} {ι : Type} (S : Fam ι) (v : List AV → Heap → AV) (h : ∀ i, S.pre i → evalMK Option.none P U ann fuel T M n g (S.A i) (S.HH i) (fun v H e => some (v, H, e)) = some (v (S.A i) (S.HH i), S.HH i, false)) :
    MemTab P U T (fun f => if f = g then some (S.entryV v) else M f) :=
  hT.addMem hX hm hA (fun args H r he => by
    obtain ⟨i, hp, rfl, rfl, rfl⟩ := S.entryV_true he
    exact evalN_of_M (h i hp))
theorem MemTab.addWrite {P : Program} {U : Out} {ann : FuncId → FAnn} {fuel n : Nat} {T : Table} {M : MTab} (hT : MemTab P U T M) (hX : ∀ B, ExtSound P B U.X) (hm : P.follows .mixedOrders = true) (hA : ∀ f, funcOk P (ann f) f = true)
    {g : FuncId} {ι : Type} (S : Fam ι) (v : List AV → Heap → AV) (w : List AV → Heap → Heap) (h : ∀ i, S.pre i → evalMK Option.none P U ann fuel T M n g (S.A i) (S.HH i) (fun v H e => some (v, H, e)) = some (v (S.A i) (S.HH i), w (S.A i) (S.HH i), false)) :
    MemTab P U T (fun f => if f = g then some (S.entryW v w) else M f) :=
  hT.addMem hX hm hA (fun args H r he => by
    obtain ⟨i, hp, rfl, rfl, rfl⟩ := S.entryW_true he
    exact evalN_of_M (h i hp))
end Go.X
/-
  Calls and results, read off in the symbolic way: an array whose elements are not known is taken for one without references, and that is asked for.
-/
namespace Go.X
mutual
/-- Arrays hold no references. -/
def AV.okS : AV → Bool
  | .arr _ xs => reflessL xs
  | .agg _ ps => okSL ps
  | .tuple ps => okSL ps
  | _ => true
def okSL : List AV → Bool
  | [] => true
  | v :: vs => v.okS && okSL vs
end
mutual
def AV.renS (g : Nat → Nat) : AV → AV
  | .arr e xs => .arr e xs
  | .agg n ps => .agg n (renSL g ps)
  | .tuple ps => .tuple (renSL g ps)
  | v => v.ren g
def renSL (g : Nat → Nat) : List AV → List AV
  | [] => []
  | v :: vs => v.renS g :: renSL g vs
end
mutual
def AV.refsS : AV → List Nat
  | .arr _ _ => []
  | .agg _ ps => refsSL ps
  | .tuple ps => refsSL ps
  | v => v.refs
def refsSL : List AV → List Nat
  | [] => []
  | v :: vs => v.refsS ++ refsSL vs
end
theorem ren_refless_both (g : Nat → Nat) : (∀ v : AV, v.refless = true → v.ren g = v) ∧ ∀ l : List AV, reflessL l = true → renL g l = l := by
  have key : ∀ v : AV, v.refless = true → v.ren g = v := by
    intro v
    induction v using AV.rec (motive_2 := fun l => reflessL l = true → renL g l = l) with
    | nil => rfl
    | cons x r h1 h2 =>
      rename_i h
      simp only [reflessL, Bool.and_eq_true] at h
      simp [renL, h1 h.1, h2 h.2]
    | iface t v ih => intro h; simpa [AV.ren] using ih (by simpa [AV.refless] using h)
    | agg n ps ih => intro h; simpa [AV.ren] using ih (by simpa [AV.refless] using h)
    | arr e xs ih => intro h; simpa [AV.ren] using ih (by simpa [AV.refless] using h)
    | _ => intro h; first | rfl | (simp [AV.refless] at h)
  refine ⟨key, fun l => ?_⟩
  induction l with
  | nil => intro _; rfl
  | cons x r ih =>
    intro h
    simp only [reflessL, Bool.and_eq_true] at h
    simp [renL, key x h.1, ih h.2]
theorem refs_of_refless_all : (∀ v : AV, v.refless = true → v.refs = []) ∧ ∀ l : List AV, reflessL l = true → refsL l = [] := by
  have key : ∀ v : AV, v.refless = true → v.refs = [] := by
    intro v
    induction v using AV.rec (motive_2 := fun l => reflessL l = true → refsL l = []) with
    | nil => rfl
    | cons x r h1 h2 =>
      rename_i h
      simp only [reflessL, Bool.and_eq_true] at h
      simp [refsL, h1 h.1, h2 h.2]
    | iface t v ih => intro h; simpa [AV.refs] using ih (by simpa [AV.refless] using h)
    | agg n ps ih => intro h; simpa [AV.refs] using ih (by simpa [AV.refless] using h)
    | arr e xs ih => intro h; simpa [AV.refs] using ih (by simpa [AV.refless] using h)
    | _ => intro h; first | rfl | (simp [AV.refless] at h)
  refine ⟨key, fun l => ?_⟩
  induction l with
  | nil => intro _; rfl
  | cons x r ih =>
    intro h
    simp only [reflessL, Bool.and_eq_true] at h
    simp [refsL, key x h.1, ih h.2]
theorem okS_both (g : Nat → Nat) : (∀ v : AV, v.okS = true → v.renS g = v.ren g ∧ v.refsS = v.refs) ∧ ∀ l : List AV, okSL l = true → renSL g l = renL g l ∧ refsSL l = refsL l := by
  have key : ∀ v : AV, v.okS = true → v.renS g = v.ren g ∧ v.refsS = v.refs := by
    intro v
    induction v using AV.rec (motive_2 := fun l => okSL l = true → renSL g l = renL g l ∧ refsSL l = refsL l) with
    | nil => exact ⟨rfl, rfl⟩
    | cons x r h1 h2 =>
      rename_i h
      simp only [okSL, Bool.and_eq_true] at h
      obtain ⟨a, b⟩ := h1 h.1
      obtain ⟨c, d⟩ := h2 h.2
      exact ⟨by simp [renSL, renL, a, c], by simp [refsSL, refsL, b, d]⟩
    | agg n ps ih =>
      intro h
      obtain ⟨a, b⟩ := ih (by simpa [AV.okS] using h)
      exact ⟨by simp [AV.renS, AV.ren, a], by simp [AV.refsS, AV.refs, b]⟩
    | tuple ps ih =>
      intro h
      obtain ⟨a, b⟩ := ih (by simpa [AV.okS] using h)
      exact ⟨by simp [AV.renS, AV.ren, a], by simp [AV.refsS, AV.refs, b]⟩
    | arr e xs ih =>
      intro h
      have h' : reflessL xs = true := by simpa [AV.okS] using h
      exact ⟨by simp [AV.renS, AV.ren, (ren_refless_both g).2 _ h'], by simp [AV.refsS, AV.refs, refs_of_refless_all.2 _ h']⟩
    | _ => intro h; exact ⟨rfl, rfl⟩
  refine ⟨key, fun l => ?_⟩
  induction l with
  | nil => intro _; exact ⟨rfl, rfl⟩
  | cons x r ih =>
    intro h
    simp only [okSL, Bool.and_eq_true] at h
    obtain ⟨a, b⟩ := key x h.1
    obtain ⟨c, d⟩ := ih h.2
    exact ⟨by simp [renSL, renL, a, c], by simp [refsSL, refsL, b, d]⟩
section
variable {R : Type} (bot : R)
def resS (C : Ctx) (s : St) : List ResultVar → List AV → (List AV → R) → R
  | [], acc, k => k acc
  | .tmp t :: l, acc, k => resS C s l (acc ++ [s.get C.A t]) k
  | .cell a t :: l, acc, k => loadS bot C.P s.H t (s.get C.A a) fun v => resS C s l (acc ++ [v]) k
theorem resS_le (C : Ctx) (s : St) : ∀ (l : List ResultVar) (acc : List AV) (k : List AV → R), Le bot (resS bot C s l acc k) ((l.mapM (resultAV C s)).elim bot fun vs => k (acc ++ vs))
  | [], acc, k => by
    right
    simp [resS]
  | .tmp t :: l, acc, k => by
    unfold resS
    refine (resS_le C s l _ k).trans bot (.inr ?_)
    rw [List.mapM_cons]
    simp only [resultAV]
    cases l.mapM (resultAV C s) with
    | none => rfl
    | some vs => simp
  | .cell a t :: l, acc, k => by
    unfold resS
    refine (loadS_le bot _ _ _ _ _).trans bot ?_
    rw [List.mapM_cons]
    simp only [resultAV]
    cases loadAV C.P s.H t (s.get C.A a) with
    | none => exact .inr rfl
    | some v =>
      refine (resS_le C s l _ k).trans bot (.inr ?_)
      cases l.mapM (resultAV C s) with
      | none => rfl
      | some vs => simp
def pickS (k : AV → R) : List AV → R
  | [v] => k v
  | vs => cond (vs.all AV.plain) (k (.tuple vs)) bot
theorem pickS_le (k : AV → R) (vs : List AV) : Le bot (pickS bot k vs) (k (pickAV vs)) := by
  unfold pickS
  split
  · exact .inr rfl
  · rename_i vs hne
    refine cond_le bot fun h => .inr ?_
    have : ∀ l : List AV, l.all AV.plain = true → l.map (fun v => if v.plain then v else .bad) = l := by
      intro l hl
      induction l with
      | nil => rfl
      | cons a l ih =>
        simp only [List.all_cons, Bool.and_eq_true] at hl
        simp only [List.map_cons, hl.1, if_true, ih hl.2]
    unfold pickAV
    split
    · rename_i v
      exact absurd rfl (hne v)
    · rw [this _ h]
def finS (C : Ctx) (fn : Func) (n0 : Nat) (k : AV → Heap → Bool → R) : Ex → St → R := fun e s => match e with
  | .exit _ => bot
  | _ => resS bot C s fn.results.toList [] fun vs => pickS bot (fun v => cond v.okS ((sweepA C.A s.H n0 v.refsS s.esc).elim bot fun H' => k v H' (escA C.A s.esc)) bot) vs
theorem finS_le (C : Ctx) (fn : Func) (n0 : Nat) (k : AV → Heap → Bool → R) (e : Ex) (s : St) : Le bot (finS bot C fn n0 k e s) (finK bot C fn n0 k e s) := by
  have h : Le bot (resS bot C s fn.results.toList [] fun vs => pickS bot (fun v => cond v.okS ((sweepA C.A s.H n0 v.refsS s.esc).elim bot fun H' => k v H' (escA C.A s.esc)) bot) vs)
      ((fn.results.toList.mapM (resultAV C s)).elim bot fun vs => (sweepA C.A s.H n0 (pickAV vs).refs s.esc).elim bot fun H' => k (pickAV vs) H' (escA C.A s.esc)) := by
    refine (resS_le bot C s _ _ _).trans bot (Le.elim bot fun vs => ?_)
    rw [List.nil_append]
    refine (pickS_le bot _ vs).trans bot ?_
    refine cond_le bot fun hr => .inr ?_
    rw [((okS_both id).1 _ hr).2]
  cases e with
  | exit i => exact .inl rfl
  | normal => exact h
  | ret => exact h
def evalFS (P : Program) (U : Out) (ann : FuncId → FAnn) (fuel : Nat) (K : Oracle) (KK : OracleK R) : OracleK R := fun f args H k =>
  match P.funcs[f]? with
  | some fn => match fn.body with
    | some c =>
      let C : Ctx := ⟨P, K, H.length, max fn.ntmps args.length, ann f, U, noY, evalI P U ann fuel K⟩
      evalCK bot true C KK fuel 0 c ⟨initL C.A.keys args, [], H, false⟩ (finS bot C fn H.length k)
    | none => bot
  | none => bot
theorem evalFS_le {P : Program} {U : Out} {ann : FuncId → FAnn} {fuel : Nat} {K : Oracle} {KK : OracleK R} (hK : ∀ f args H k, Le bot (KK f args H k) (KOf bot K f args H k)) (f : FuncId) (args : List AV) (H : Heap) (k : AV → Heap → Bool → R) :
    Le bot (evalFS bot P U ann fuel K KK f args H k) ((evalF P U ann fuel K f args H).elim bot fun r => k r.1 r.2.1 r.2.2) := by
  unfold evalFS evalF evalG
  cases hf : P.funcs[f]? with
  | none => exact .inl rfl
  | some fn =>
    simp only [Option.bind_some]
    cases hb : fn.body with
    | none => exact .inl rfl
    | some c =>
      simp only [Option.bind_some]
      refine (evalCK_le bot true (C := ⟨P, K, H.length, max fn.ntmps args.length, ann f, U, noY, evalI P U ann fuel K⟩) hK fuel c 0 _ _).trans bot ?_
      cases evalC ⟨P, K, H.length, max fn.ntmps args.length, ann f, U, noY, evalI P U ann fuel K⟩ fuel 0 c ⟨initL (ann f).keys args, [], H, false⟩ with
      | none => exact .inl rfl
      | some x =>
        obtain ⟨e, s2⟩ := x
        refine (finS_le bot _ _ _ _ _ _).trans bot ?_
        cases e with
        | exit i => exact .inl rfl
        | normal =>
          simp only [Option.bind_some, finK]
          right
          cases fn.results.toList.mapM (resultAV ⟨P, K, H.length, max fn.ntmps args.length, ann f, U, noY, evalI P U ann fuel K⟩ s2) with
          | none => rfl
          | some vs =>
            simp only [Option.elim_some, Option.bind_some]
            cases sweepA (ann f) s2.H H.length (pickAV vs).refs s2.esc <;> rfl
        | ret =>
          simp only [Option.bind_some, finK]
          right
          cases fn.results.toList.mapM (resultAV ⟨P, K, H.length, max fn.ntmps args.length, ann f, U, noY, evalI P U ann fuel K⟩ s2) with
          | none => rfl
          | some vs =>
            simp only [Option.elim_some, Option.bind_some]
            cases sweepA (ann f) s2.H H.length (pickAV vs).refs s2.esc <;> rfl
def outsS (g : Nat → Nat) (B : Heap → Heap) (k : AV → Heap → Bool → R) : Outs → R
  | [] => bot
  | (b, v, H, e) :: l => cond b (cond v.okS (k (v.renS g) (B H) e) bot) (outsS g B k l)
theorem outsS_le (g : Nat → Nat) (B : Heap → Heap) (k : AV → Heap → Bool → R) : ∀ l : Outs, Le bot (outsS bot g B k l) (outsK bot (fun v H1 e => k (v.ren g) (B H1) e) l)
  | [] => .inl rfl
  | (b, v, H, e) :: l => by
    unfold outsS outsK
    cases b with
    | false => exact outsS_le g B k l
    | true =>
      refine cond_le bot fun hv => .inr ?_
      rw [((okS_both g).1 _ hv).1]
      rfl
def memS (t : List AV → Heap → Option Outs) : List AV → Heap → (AV → Heap → Bool → R) → R := fun args H k => cond (okSL args) (match (reach H 0 1000 (refsSL args) []).map List.reverse with
  | some p => match t (renSL (idx p) args) (pieceH p H) with
    | some l => outsS bot (backN p H.length) (backH p H) k l
    | none => bot
  | none => bot) bot
theorem memS_le (t : List AV → Heap → Option Outs) (args : List AV) (H : Heap) (k : AV → Heap → Bool → R) : Le bot (memS bot t args H k) (memK bot t args H k) := by
  unfold memS memK pieceOf
  refine cond_le bot fun h => ?_
  rw [((okS_both id).2 _ h).2]
  cases (reach H 0 1000 (refsL args) []).map List.reverse with
  | none => exact .inl rfl
  | some p =>
    simp only
    rw [((okS_both (idx p)).2 _ h).1]
    cases t (renL (idx p) args) (pieceH p H) with
    | none => exact .inl rfl
    | some l => exact outsS_le bot _ _ k l
/-- The evaluator handing on, with both tables; calls and results in the symbolic way. -/
def evalMS (P : Program) (U : Out) (ann : FuncId → FAnn) (fuel : Nat) (T : Table) (M : MTab) : Nat → OracleK R
  | 0 => fun _ _ _ _ => bot
  | n + 1 => fun f args H k => match T f with
    | some t => snapLK bot H args fun xs => match t xs with
      | some (b, v) => cond b (k v H false) bot
      | none => bot
    | none => match M f with
      | some t => memS bot t args H k
      | none => evalFS bot P U ann fuel (evalN P U ann fuel (both T M) n) (evalMS P U ann fuel T M n) f args H k
theorem evalMS_le {P : Program} {U : Out} {ann : FuncId → FAnn} {fuel : Nat} {T : Table} {M : MTab} : ∀ (n : Nat) (f : FuncId) (args : List AV) (H : Heap) (k : AV → Heap → Bool → R),
    Le bot (evalMS bot P U ann fuel T M n f args H k) (KOf bot (evalN P U ann fuel (both T M) n) f args H k)
  | 0, f, args, H, k => .inl rfl
  | n + 1, f, args, H, k => by
    show Le bot (match T f with
      | some t => snapLK bot H args fun xs => match t xs with
        | some (b, v) => cond b (k v H false) bot
        | none => bot
      | none => match M f with
        | some t => memS bot t args H k
        | none => evalFS bot P U ann fuel (evalN P U ann fuel (both T M) n) (evalMS bot P U ann fuel T M n) f args H k) _
    have hM' := evalMK_le (R := R) bot (P := P) (U := U) (ann := ann) (fuel := fuel) (T := T) (M := M) (n + 1) f args H k
    unfold evalMK at hM'
    cases hT : T f with
    | some t => rw [hT] at hM'; exact hM'
    | none =>
      rw [hT] at hM'
      simp only at hM' ⊢
      cases hM : M f with
      | some t =>
        rw [hM] at hM'
        exact (memS_le bot t args H k).trans bot hM'
      | none =>
        simp only
        have hn : both T M f args H = none := by
          unfold both
          have hp : pureK (kOf T) f args H = none := by
            unfold pureK kOf
            rw [hT]
            cases snapL H args <;> rfl
          rw [hp]
          simp only
          unfold locF mOf
          rw [hM]
          cases pieceOf H args <;> rfl
        refine (evalFS_le bot (evalMS_le n) f args H k).trans bot (.inr ?_)
        show _ = (match both T M f args H with | some r => some r | none => evalF P U ann fuel (evalN P U ann fuel (both T M) n) f args H).elim bot fun r => k r.1 r.2.1 r.2.2
        rw [hn]
end
theorem evalN_of_S {P : Program} {U : Out} {ann : FuncId → FAnn} {fuel n : Nat} {T : Table} {M : MTab} {f : FuncId} {args : List AV} {H : Heap} {r : AV × Heap × Bool}
    (h : evalMS none P U ann fuel T M n f args H (fun v H e => some (v, H, e)) = some r) : evalN P U ann fuel (both T M) n f args H = some r := by
  rcases evalMS_le (R := Option (AV × Heap × Bool)) none (P := P) (U := U) (ann := ann) (fuel := fuel) (T := T) (M := M) n f args H (fun v H e => some (v, H, e)) with h1 | h1
  · rw [h] at h1; cases h1
  · rw [h] at h1
    unfold KOf at h1
    cases hx : evalN P U ann fuel (both T M) n f args H with
    | none => rw [hx] at h1; cases h1
    | some x => rw [hx] at h1; exact h1.symm
theorem run_of_trueS {P : Program} {U : Out} {ann : FuncId → FAnn} {fuel n : Nat} {T : Table} {M : MTab} {f : FuncId} {args : List AV} {H : Heap}
    (h : evalMS false P U ann fuel T M n f args H (fun v _ _ => v.isTrue) = true) : ∃ H' e, evalN P U ann fuel (both T M) n f args H = some (.bool true, H', e) := by
  rcases evalMS_le (R := Bool) false (P := P) (U := U) (ann := ann) (fuel := fuel) (T := T) (M := M) n f args H (fun v _ _ => v.isTrue) with h1 | h1
  · rw [h] at h1; cases h1
  rw [h1] at h
  unfold KOf at h
  cases hx : evalN P U ann fuel (both T M) n f args H with
  | none => rw [hx] at h; simp at h
  | some r =>
    obtain ⟨v, H', e⟩ := r
    rw [hx] at h
    simp only [Option.elim_some] at h
    cases v <;> simp only [AV.isTrue, reduceCtorEq] at h
    subst h
    exact ⟨H', e, rfl⟩
theorem MemTab.addReadS {P : Program} {U : Out} {ann : FuncId → FAnn} {fuel n : Nat} {T : Table} {M : MTab} (hT : MemTab P U T M) (hX : ∀ B, ExtSound P B U.X) (hm : P.follows .mixedOrders = true) (hA : ∀ f, funcOk P (ann f) f = true)
    {g : FuncId} {ι : Type} (S : Fam ι) (v : List AV → Heap → AV) (h : ∀ i, S.pre i → evalMS Option.none P U ann fuel T M n g (S.A i) (S.HH i) (fun v H e => some (v, H, e)) = some (v (S.A i) (S.HH i), S.HH i, false)) :
    MemTab P U T (fun f => if f = g then some (S.entryV v) else M f) :=
  hT.addMem hX hm hA (fun args H r he => by
    obtain ⟨i, hp, rfl, rfl, rfl⟩ := S.entryV_true he
    exact evalN_of_S (h i hp))
theorem MemTab.addWriteS {P : Program} {U : Out} {ann : FuncId → FAnn} {fuel n : Nat} {T : Table} {M : MTab} (hT : MemTab P U T M) (hX : ∀ B, ExtSound P B U.X) (hm : P.follows .mixedOrders = true) (hA : ∀ f, funcOk P (ann f) f = true)
    {g : FuncId} {ι : Type} (S : Fam ι) (v : List AV → Heap → AV) (w : List AV → Heap → Heap) (h : ∀ i, S.pre i → evalMS Option.none P U ann fuel T M n g (S.A i) (S.HH i) (fun v H e => some (v, H, e)) = some (v (S.A i) (S.HH i), w (S.A i) (S.HH i), false)) :
    MemTab P U T (fun f => if f = g then some (S.entryW v w) else M f) :=
  hT.addMem hX hm hA (fun args H r he => by
    obtain ⟨i, hp, rfl, rfl, rfl⟩ := S.entryW_true he
    exact evalN_of_S (h i hp))
end Go.X
/-
  A function with a loop, told by the run handed on: its call.
-/
namespace Go.X
open Classical
theorem evalN_of_FS {P : Program} {U : Out} {ann : FuncId → FAnn} {fuel n : Nat} {T : Table} {M : MTab} {f : FuncId} {args : List AV} {H : Heap} {r : AV × Heap × Bool} (hT : T f = none) (hM : M f = none)
    (h : evalFK none true P U ann fuel (evalN P U ann fuel (both T M) n) (evalMS none P U ann fuel T M n) f args H (fun v H e => some (v, H, e)) = some r) : evalN P U ann fuel (both T M) (n + 1) f args H = some r := by
  have hn : both T M f args H = none := by
    unfold both
    have hp : pureK (kOf T) f args H = none := by
      unfold pureK kOf
      rw [hT]
      cases snapL H args <;> rfl
    rw [hp]
    simp only
    unfold locF mOf
    rw [hM]
    cases pieceOf H args <;> rfl
  have hl := evalFK_le (R := Option (AV × Heap × Bool)) none true (P := P) (U := U) (ann := ann) (fuel := fuel) (KK := evalMS none P U ann fuel T M n) (evalMS_le none n) f args H (fun v H e => some (v, H, e))
  show (match both T M f args H with | some r => some r | none => evalF P U ann fuel (evalN P U ann fuel (both T M) n) f args H) = some r
  rw [hn]
  simp only
  rcases hl with h1 | h1
  · rw [h] at h1; cases h1
  · rw [h] at h1
    unfold KOf at h1
    cases he : evalF P U ann fuel (evalN P U ann fuel (both T M) n) f args H with
    | none => rw [he] at h1; cases h1
    | some x => rw [he] at h1; simpa using h1.symm
/-- Of two tables, function by function. -/
theorem MemTab.pick {P : Program} {U : Out} {T : Table} {Ma Mb : MTab} (ha : MemTab P U T Ma) (hb : MemTab P U T Mb) (g : FuncId) : MemTab P U T (fun f => if f = g then Ma f else Mb f) := by
  refine ⟨ha.pure, fun B f args H v H' e hx => ?_⟩
  by_cases hc : f = g
  · refine ha.mem B f args H v H' e ?_
    rw [← hx]
    unfold mOf
    simp only [if_pos hc]
  · refine hb.mem B f args H v H' e ?_
    rw [← hx]
    unfold mOf
    simp only [if_neg hc]
/-- A function of a family, with two outcomes told by a test. -/
theorem MemTab.addTwo {P : Program} {U : Out} {ann : FuncId → FAnn} {fuel n : Nat} {T : Table} {M : MTab} (hT : MemTab P U T M) (hX : ∀ B, ExtSound P B U.X) (hm : P.follows .mixedOrders = true) (hA : ∀ f, funcOk P (ann f) f = true)
    {g : FuncId} {ι : Type} (S : Fam ι) (c : List AV → Heap → Bool) (v1 v2 : List AV → Heap → AV) (w1 w2 : List AV → Heap → Heap)
    (h : ∀ i, S.pre i → evalN P U ann fuel (both T M) n g (S.A i) (S.HH i) = some (match c (S.A i) (S.HH i) with | true => (v1 (S.A i) (S.HH i), w1 (S.A i) (S.HH i), false) | false => (v2 (S.A i) (S.HH i), w2 (S.A i) (S.HH i), false))) :
    MemTab P U T (fun f => if f = g then some (fun args H => some [(S.tst args H && c args H, v1 args H, w1 args H, false), (S.tst args H, v2 args H, w2 args H, false)]) else M f) :=
  hT.addMem (n := n) hX hm hA (fun args H r he => by
    simp only [Option.bind_some] at he
    cases ht : S.tst args H with
    | false => rw [ht] at he; simp [pickO] at he
    | true =>
      obtain ⟨i, hp, rfl, rfl⟩ := of_decide_eq_true ht
      rw [h i hp]
      rw [ht] at he
      cases hc : c (S.A i) (S.HH i) with
      | true => rw [hc] at he; simpa [pickO] using he
      | false => rw [hc] at he; simpa [pickO] using he)
end Go.X
/-
  What lies about the program: the notes are right; entries without a body.
-/
namespace Go.Proofs.Ytclmndonaljppaa
open Go Go.X
noncomputable def U : Out := ⟨extX Try.prog tab, fun _ => none⟩
theorem annOk : ((List.range Try.prog.funcs.size).all fun f => funcOk Try.prog (ann f) f) = true := by kernel_rfl
theorem tabOk : TabSound Try.prog tab := by
  intro x hx
  simp only [tab, List.mem_cons, List.not_mem_nil, or_false] at hx
  rcases hx with rfl | rfl | rfl | rfl | rfl | rfl
  · exact ⟨_, Try.func33, by kernel_rfl, by kernel_rfl, by kernel_rfl, by kernel_rfl⟩
  · exact ⟨_, Try.func71, by kernel_rfl, by kernel_rfl, by kernel_rfl, by kernel_rfl⟩
  · exact ⟨_, Try.func73, by kernel_rfl, by kernel_rfl, by kernel_rfl, by kernel_rfl⟩
  · exact ⟨_, Try.func74, by kernel_rfl, by kernel_rfl, by kernel_rfl, by kernel_rfl⟩
  · exact ⟨_, Try.func75, by kernel_rfl, by kernel_rfl, by kernel_rfl, by kernel_rfl⟩
  · exact ⟨_, Try.func76, by kernel_rfl, by kernel_rfl, by kernel_rfl, by kernel_rfl⟩
theorem extU (B : Nat) : ExtSound Try.prog B U.X := ext_ok tabOk
theorem hA : ∀ f, funcOk Try.prog (ann f) f = true := all_ok annOk
theorem mixed : Try.prog.follows .mixedOrders = true := by kernel_rfl
end Go.Proofs.Ytclmndonaljppaa
