/-
  Maps with integer keys.
-/
import Derived.Test.YtkkbnchpedacjaaGreatDoorXc
import Derived.MapKept
import Derived.RangeFuncLeaves
import Derived.RangeFuncOwn
import Derived.OrdersIn

namespace Go.X
open Go.RowKit (Below)

section
variable {P : Program} {B : Nat} {E E' : Env} {H : Heap} {w w' : World}

theorem scalar_pr {v : AV} {c : Value} (h : v.scalar = some c) : PR E v c := by
  cases v <;> simp only [AV.scalar, reduceCtorEq, Option.some.injEq] at h <;> subst h
  · exact .int
  · exact .bool
  · exact .str

theorem scalar_int {k : IntKind} {n : Int} : (AV.int k n).scalar = some (.int k n) := rfl

theorem find_spec {k : IntKind} {n : Int} : ∀ {es : List AV} {l : List MapEntry} {r : Option AV} (i : Nat), entsAV es = some (l.map fun (e : MapEntry) => (e.key, e.val)) → mapFind k n es = some r →
    (r = none ∧ Instr.findNow (.int k) (.int k n) l i = some none) ∨ ∃ v c j, r = some v ∧ v.scalar = some c ∧ Instr.findNow (.int k) (.int k n) l i = some (some (i + j, c)) ∧ (l[j]?).map (·.key) = some (.int k n)
  | [], l, r, i, he, hf => by
    simp only [entsAV, Option.some.injEq] at he
    obtain rfl : l = [] := by simpa using he.symm
    simp only [mapFind, Option.some.injEq] at hf
    exact .inl ⟨hf.symm, rfl⟩
  | a :: es, l, r, i, he, hf => by
    unfold mapFind at hf
    split at hf
    · rename_i heq; cases heq
    · rename_i k' m u r' heq
      obtain ⟨rfl, rfl⟩ := by simpa using heq
      split at hf
      · rename_i hk
        subst hk
        simp only [entsAV, scalar_int] at he
        split at he
        · rename_i a b ha hb
          obtain rfl := Option.some.inj ha
          simp only [Option.map_eq_some_iff] at he
          obtain ⟨l', hl', he⟩ := he
          cases l with
          | nil => simp at he
          | cons e l =>
            simp only [List.map_cons, List.cons.injEq, Prod.mk.injEq] at he
            obtain ⟨⟨hek, hev⟩, rfl⟩ := he
            split at hf
            · rename_i hnm
              have hnm' : n = m := by simpa using hnm
              subst hnm'
              obtain rfl := Option.some.inj hf
              refine .inr ⟨u, b, 0, rfl, hb, ?_, by simp [hek]⟩
              simp [Instr.findNow, Instr.sameNow, ← hek, ← hev]
            · rename_i hnm
              have hnm' : (n == m) = false := by simpa using hnm
              rcases find_spec (i + 1) hl' hf with ⟨h1, h2⟩ | ⟨v, c, j, h1, h2, h3, h4⟩
              · left
                refine ⟨h1, ?_⟩
                simp [Instr.findNow, Instr.sameNow, ← hek, hnm', h2]
              · right
                refine ⟨v, c, j + 1, h1, h2, ?_, by simpa using h4⟩
                simp only [Instr.findNow, Instr.sameNow, ← hek, if_true, hnm', h3]
                simp; omega
        · cases he
      · cases hf
    · cases hf

theorem put_new {k : IntKind} {n : Int} {v : AV} {c : Value} (hv : v.scalar = some c) {clock : Nat} : ∀ {es : List AV} {l : List MapEntry}, entsAV es = some (l.map fun (e : MapEntry) => (e.key, e.val)) →
    mapFind k n es = some none → entsAV (mapPut k n v es) = some ((l ++ [(⟨.int k n, c, clock⟩ : MapEntry)]).map fun (e : MapEntry) => (e.key, e.val))
  | [], l, he, hf => by
    simp only [entsAV, Option.some.injEq] at he
    obtain rfl : l = [] := by simpa using he.symm
    simp [mapPut, entsAV, scalar_int, hv]
  | a :: es, l, he, hf => by
    unfold mapFind at hf
    split at hf
    · simp at *
    · rename_i k' m u r' heq
      obtain ⟨rfl, rfl⟩ := by simpa using heq
      split at hf
      · rename_i hk
        subst hk
        simp only [entsAV, scalar_int] at he
        split at he
        · rename_i a b ha hb
          obtain rfl := Option.some.inj ha
          simp only [Option.map_eq_some_iff] at he
          obtain ⟨l', hl', he⟩ := he
          cases l with
          | nil => simp at he
          | cons e l =>
            simp only [List.map_cons, List.cons.injEq, Prod.mk.injEq] at he
            obtain ⟨⟨hek, hev⟩, rfl⟩ := he
            split at hf
            · cases hf
            · rename_i hnm
              have ih := put_new hv (clock := clock) hl' hf
              have : ¬ (k' = k' ∧ (n == m) = true) := fun h => hnm h.2
              rw [show mapPut k' n v (.tuple [.int k' m, u] :: es) = .tuple [.int k' m, u] :: mapPut k' n v es from if_neg this]
              simp only [entsAV, scalar_int, hb, ih]
              simp [← hek, ← hev]
        · cases he
      · cases hf
    · cases hf

theorem put_old {k : IntKind} {n : Int} {v u : AV} {c : Value} (hv : v.scalar = some c) : ∀ {es : List AV} {l : List MapEntry} {j i : Nat} {x : Value}, entsAV es = some (l.map fun (e : MapEntry) => (e.key, e.val)) →
    mapFind k n es = some (some u) → Instr.findNow (.int k) (.int k n) l i = some (some (i + j, x)) → entsAV (mapPut k n v es) = some ((l.modify j fun (e : MapEntry) => { e with key := .int k n, val := c }).map fun (e : MapEntry) => (e.key, e.val))
  | [], l, j, i, x, he, hf, hn => by simp [mapFind] at hf
  | a :: es, l, j, i, x, he, hf, hn => by
    unfold mapFind at hf
    split at hf
    · simp at *
    · rename_i k' m u' r' heq
      obtain ⟨rfl, rfl⟩ := by simpa using heq
      split at hf
      · rename_i hk
        subst hk
        simp only [entsAV, scalar_int] at he
        split at he
        · rename_i a b ha hb
          obtain rfl := Option.some.inj ha
          simp only [Option.map_eq_some_iff] at he
          obtain ⟨l', hl', he⟩ := he
          cases l with
          | nil => simp at he
          | cons e l =>
            simp only [List.map_cons, List.cons.injEq, Prod.mk.injEq] at he
            obtain ⟨⟨hek, hev⟩, rfl⟩ := he
            split at hf
            · rename_i hnm
              have hj : j = 0 := by
                simp only [Instr.findNow, Instr.sameNow, ← hek, if_true, hnm, Option.some.injEq, Prod.mk.injEq] at hn
                omega
              subst hj
              simp [mapPut, hnm, entsAV, scalar_int, hv, hl']
            · rename_i hnm
              have hnm' : (n == m) = false := by simpa using hnm
              simp only [Instr.findNow, Instr.sameNow, ← hek, if_true, hnm'] at hn
              have hj : ∃ j', j = j' + 1 := by
                cases j with
                | succ j' => exact ⟨j', rfl⟩
                | zero =>
                  exfalso
                  rcases find_spec (i + 1) hl' hf with ⟨h1, _⟩ | ⟨_, _, j2, _, _, h3, _⟩
                  · cases h1
                  · rw [hn] at h3
                    simp at h3
                    omega
              obtain ⟨j', rfl⟩ := hj
              have ih := put_old hv (i := i + 1) (j := j') (x := x) hl' hf (by rw [hn]; simp; omega)
              have : ¬ (k' = k' ∧ (n == m) = true) := fun h => hnm h.2
              rw [show mapPut k' n v (.tuple [.int k' m, u'] :: es) = .tuple [.int k' m, u'] :: mapPut k' n v es from if_neg this]
              simp only [entsAV, scalar_int, hb, ih]
              simp [← hek, ← hev]
        · cases he
      · cases hf
    · cases hf

/-- An empty map. -/
theorem makeMap_ok {n0 : Nat} (hs : Sim B E H w) (hn : n0 ≤ H.length) : Res B n0 E H w (.map H.length) (H ++ [some ⟨.tuple [], false, true⟩]) false
    ⟨E.loc, E.m, E.top + 1, fun i => if i = E.top then some w.heap.size else E.mloc i, E.yl⟩ (w.alloc (.map #[] 0)) (.map (some w.heap.size)) := by
  have hbel : Bel B w (w.alloc (.map #[] 0)) := (Bel.refl B w).alloc hs.old _
  have htop := hs.top
  have hblk : ∀ j, Heap.blk (H ++ [some ⟨.tuple [], false, true⟩]) j = if j = H.length then none else H.blk j := fun j => by rw [Heap.blk_append']; rfl
  have hmp : ∀ j, Heap.mp (H ++ [some ⟨.tuple [], false, true⟩]) j = if j = H.length then some [] else H.mp j := fun j => by
    unfold Heap.mp
    rw [get_append]
    by_cases hj : j = H.length
    · rw [if_pos hj, if_pos hj]; rfl
    · rw [if_neg hj, if_neg hj]
  have hev : Evol E.top E ⟨E.loc, E.m, E.top + 1, fun i => if i = E.top then some w.heap.size else E.mloc i, E.yl⟩ := ⟨fun i _ L h => ⟨L, h, .inl rfl⟩, fun _ _ _ h => h, fun i hi b hb => by
    simp only at hb
    rw [if_neg (by omega)] at hb
    exact hb, rfl⟩
  have hold : ∀ b o, b < w.heap.size → (w.alloc (.map #[] 0)).cell? ⟨b, o, none⟩ = w.cell? ⟨b, o, none⟩ ∧ (w.alloc (.map #[] 0)).frozen? ⟨b, o, none⟩ = w.frozen? ⟨b, o, none⟩ := fun b o hb =>
    ⟨World.cell?_of_block (Below.heap_alloc w _ b hb), World.frozen?_of_block (Below.heap_alloc w _ b hb)⟩
  have hold_lt : ∀ i b, E.mloc i = some b → b < w.heap.size := fun i b hb => by
    obtain ⟨es, he⟩ := hs.mdead i b hb
    obtain ⟨b', h1, ⟨vs, cl, h2, _⟩, _⟩ := hs.mlive i es he
    obtain rfl : b = b' := by rw [hb] at h1; exact Option.some.inj h1
    exact (Array.getElem?_eq_some_iff.1 h2).1
  refine ⟨⟨by simp [htop], fun j bk hj => ?_, fun j L hj => ?_, hs.apart, fun b o c hc => ?_, hs.immApart, fun j bk hj hf => ?_, Nat.le_trans hs.old hbel.size, fun j es hj => ?_, fun j b hj => ?_, fun i j b hi hj => ?_⟩,
    VR.of_PR (v := .map _) ⟨[_], .map (by show H.length < E.top + 1; omega) (fun b' hb' => ?_) .nil, rfl⟩,
    ⟨hbel.toBelow, by rw [← htop]; exact hev, fun b o hb _ => hold b o hb, fun _ _ _ h => h, fun _ _ _ _ h => .inl h, fun j o ho hn' _ => hbel.objs j o ho hn', fun j hj hm => ?_⟩, by simp, fun _ => Sub.append hn⟩
  · rw [hblk] at hj
    split at hj
    · cases hj
    · obtain ⟨L, h1, h2, h3⟩ := hs.live j bk hj
      exact ⟨L, h1, h2.later (k := E.top) hev (Nat.le_succ _) h2.refs_lt (fun q hq => hold _ _ (hs.loc_lt h1 hq)), h3⟩
  · obtain ⟨bk, hb⟩ := hs.dead j L hj
    exact ⟨bk, by rw [hblk, if_neg (by have := Heap.blk_some hb; omega)]; exact hb⟩
  · have := hs.imm b o c hc
    rw [(hold b o (World.block_lt_of_cell? w _ this)).1]
    exact this
  · rw [hblk] at hj
    split at hj
    · cases hj
    · exact hs.flat j bk hj hf
  · rw [hmp] at hj
    split at hj
    · rename_i hjl
      obtain rfl := Option.some.inj hj
      refine ⟨w.heap.size, by simp [hjl, htop], ⟨#[], 0, (MapKept.heap_alloc w _).1, rfl⟩, hs.old⟩
    · rename_i hjl
      obtain ⟨b, h1, h2, h3⟩ := hs.mlive j es hj
      exact ⟨b, by simp only; rw [if_neg (by omega)]; exact h1, h2.keeps hbel, h3⟩
  · simp only at hj
    split at hj
    · rename_i hjt
      exact ⟨[], by rw [hmp, if_pos (by omega)]⟩
    · obtain ⟨es, he⟩ := hs.mdead j b hj
      exact ⟨es, by rw [hmp, if_neg (by omega)]; exact he⟩
  · simp only at hi hj
    split at hi <;> split at hj
    · omega
    · obtain rfl := Option.some.inj hi
      have := hold_lt j _ hj
      omega
    · obtain rfl := Option.some.inj hj
      have := hold_lt i _ hi
      omega
    · exact hs.mapart i j b hi hj
  · simp only at hb'
    rw [if_pos htop.symm] at hb'
    exact (Option.some.inj hb').symm
  · obtain ⟨i, hi⟩ := hm
    simp only at hi
    split at hi
    · obtain rfl := Option.some.inj hi
      omega
    · exact ⟨i, hi⟩

theorem map_at (hs : Sim B E H w) {id : Nat} {es : List AV} {c : Value} (hv : VR E (.map id) c) (he : H.mp id = some es) : ∃ b vs clock, c = .map (some b) ∧ E.mloc id = some b ∧ w.heap[b]? = some (.map vs clock) ∧ entsAV es = some (vs.toList.map fun (e : MapEntry) => (e.key, e.val)) ∧ B ≤ b := by
  obtain ⟨b, h1, ⟨vs, clock, h2, h3⟩, h4⟩ := hs.mlive id es he
  have h5 := (show PR E (.map id) c from hv).leaf rfl
  cases h5 with
  | map k1 k2 k3 =>
    obtain rfl := k2 b h1
    exact ⟨_, vs, clock, rfl, h1, h2, h3, h4⟩

theorem lookup_ok (hs : Sim B E H w) {t : TypeId} {x i v : AV} {cx ci : Value} {ok : Bool} (hx : VR E x cx) (hi : VR E i ci) (h : lookupAV P H t x i ok = some v) : ∃ c, (Instr.lookup t cx ci ok).run P w = .ok c w ∧ VR E v c := by
  unfold lookupAV at h
  split at h
  · rename_i kt et hu
    split at h
    · rename_i k id k' n hk
      split at h
      · rename_i hkk
        subst hkk
        simp only [Option.bind_eq_some_iff] at h
        obtain ⟨es, hes, r, hr, h⟩ := h
        obtain ⟨b, vs, clock, rfl, _, hb, hents, _⟩ := map_at hs hx hes
        obtain rfl := hi.int_inv
        have hck := MapKept.run_checkKey (P := P) (w := w) (k := .int k' n) hk rfl vs.isEmpty 9999
        split at h
        · rename_i u
          rcases find_spec 0 hents hr with ⟨h1, _⟩ | ⟨u', c, j, h1, h2, h3, _⟩
          · cases h1
          · obtain rfl := Option.some.inj h1
            split at h
            · obtain rfl := Option.some.inj h
              have hfk := MapKept.run_findKey (P := P) (w := w) hk h3
              cases ok
              · exact ⟨c, by simp [Instr.lookup, run_underlying hu, MapKept.run_getObj_map hb, hck, hfk, Sem.run_bind, Result.andThen], VR.of_PR (scalar_pr h2)⟩
              · refine ⟨.tuple #[c, .bool true], by simp [Instr.lookup, run_underlying hu, MapKept.run_getObj_map hb, hck, hfk, Sem.run_bind, Result.andThen], [c, .bool true], rfl, rfl, fun i v cc hv hc => ?_⟩
                match i with
                | 0 => simp at hv hc; subst hv hc; exact .inr (scalar_pr h2)
                | 1 => simp at hv hc; subst hv hc; exact .inr .bool
                | i + 2 => simp at hv
            · cases h
        · rcases find_spec 0 hents hr with ⟨_, h2⟩ | ⟨_, _, _, h1, _⟩
          · simp only [Option.bind_eq_some_iff] at h
            obtain ⟨z, hz, h⟩ := h
            split at h
            · rename_i hsc
              obtain rfl := Option.some.inj h
              have hfk := MapKept.run_findKey (P := P) (w := w) hk h2
              obtain ⟨i', z', hi', hz', hf, _, hpk⟩ := zero_spec (E := E) hz
              have hzv : (zeroValue et).run P w = .ok z' w := by simp [zeroValue, typeInfo, hi', hz']
              have hpz : PR E z z' := ⟨z'.cells.toList, hf, hpk.symm⟩
              cases ok
              · exact ⟨z', by simp [Instr.lookup, run_underlying hu, MapKept.run_getObj_map hb, hck, hfk, Sem.run_bind, Result.andThen, hzv], VR.of_PR hpz⟩
              · refine ⟨.tuple #[z', .bool false], by simp [Instr.lookup, run_underlying hu, MapKept.run_getObj_map hb, hck, hfk, Sem.run_bind, Result.andThen, hzv], [z', .bool false], rfl, rfl, fun i v cc hv hc => ?_⟩
                match i with
                | 0 => simp at hv hc; subst hv hc; exact .inr hpz
                | 1 => simp at hv hc; subst hv hc; exact .inr .bool
                | i + 2 => simp at hv
            · cases h
          · cases h1
      · cases h
    · cases h
  · cases h

/-- A map's object is turned, and nothing else. -/
theorem Sim.mapset (hs : Sim B E H w) {id b : Nat} {es es' : List AV} {vs vs' : Array MapEntry} {clock clock' : Nat} (he : H.mp id = some es) (hloc : E.mloc id = some b) (hb : w.heap[b]? = some (.map vs clock)) (hB : B ≤ b)
    (hents : entsAV es' = some (vs'.toList.map fun (e : MapEntry) => (e.key, e.val))) {n0 : Nat} :
    Res B n0 E H w .bad (H.set id (some ⟨.tuple es', false, true⟩)) false E { w with heap := w.heap.setIfInBounds b (.map vs' clock') } undef := by
  have hbl : b < w.heap.size := (Array.getElem?_eq_some_iff.1 hb).1
  have hlt : id < H.length := by
    rcases Nat.lt_or_ge id H.length with h | h
    · exact h
    · simp [Heap.mp, List.getElem?_eq_none h, mpOf] at he
  have hnoblk : H.blk id = none := by
    cases hx : H.blk id with
    | none => rfl
    | some bk => rw [Heap.mp_blk hx] at he; cases he
  have hblk : ∀ j, Heap.blk (H.set id (some ⟨.tuple es', false, true⟩)) j = H.blk j := fun j => by
    rw [Heap.blk_set' hlt]
    split
    · rename_i hj; subst hj; rw [hnoblk]; rfl
    · rfl
  have hmp : ∀ j, Heap.mp (H.set id (some ⟨.tuple es', false, true⟩)) j = if id = j then some es' else H.mp j := fun j => by
    unfold Heap.mp
    rw [get_set hlt]
    by_cases hj : id = j
    · rw [if_pos hj, if_pos hj]; rfl
    · rw [if_neg hj, if_neg hj]
  obtain ⟨hh1, hh2⟩ := MapKept.heap_set (w := w) (o' := .map vs' clock') hb
  have hcell : ∀ p : Addr, World.cell? { w with heap := w.heap.setIfInBounds b (.map vs' clock') } p = w.cell? p := fun p => by
    by_cases hp : p.block = b
    · unfold World.cell?
      simp only [hp]
      rw [hh1, hb]
    · exact World.cell?_of_block (hh2 _ hp)
  have hfrz : ∀ p : Addr, World.frozen? { w with heap := w.heap.setIfInBounds b (.map vs' clock') } p = w.frozen? p := fun p => by
    by_cases hp : p.block = b
    · unfold World.frozen?
      simp only [hp]
      rw [hh1, hb]
    · exact World.frozen?_of_block (hh2 _ hp)
  have hsize : (w.heap.setIfInBounds b (.map vs' clock')).size = w.heap.size := by simp
  have hbel : Below B w { w with heap := w.heap.setIfInBounds b (.map vs' clock') } := ⟨rfl, rfl, rfl, by simp, fun k hk => hh2 k (by omega)⟩
  refine ⟨⟨by simp [hs.top], fun j bk hj => ?_, fun j L hj => ?_, hs.apart, fun b o c hc => by rw [hcell]; exact hs.imm b o c hc, hs.immApart, fun j bk hj hf => ?_, by simp; exact hs.old, fun j es1 hj => ?_, fun j b1 hj => ?_, hs.mapart⟩, trivial,
    ⟨hbel, Evol.refl _ _, fun b o _ _ => ⟨hcell _, hfrz _⟩, fun _ _ _ h => h, fun _ _ _ _ h => .inl h, fun j o ho hn hm => ?_, fun _ _ h => h⟩, by simp, fun _ => fun j hj bk hb' => ?_⟩
  · rw [hblk] at hj
    obtain ⟨L, h1, ⟨⟨cs, c1, c2, c3⟩, h3, h4⟩, h5⟩ := hs.live j bk hj
    exact ⟨L, h1, ⟨⟨cs, c1, c2, fun q c hq => by rw [hcell]; exact c3 q c hq⟩, h3, fun q hq => by rw [hcell, hfrz]; exact h4 q hq⟩, h5⟩
  · rw [hblk]
    exact hs.dead j L hj
  · rw [hblk] at hj
    exact hs.flat j bk hj hf
  · rw [hmp] at hj
    split at hj
    · rename_i hij
      subst hij
      obtain rfl := Option.some.inj hj
      exact ⟨b, hloc, ⟨vs', clock', hh1, hents⟩, hB⟩
    · rename_i hij
      obtain ⟨b1, h1, ⟨vs1, cl1, h2, h3⟩, h4⟩ := hs.mlive j es1 hj
      have hne : b1 ≠ b := fun e => hij (hs.mapart id j b hloc (by rw [← e]; exact h1))
      exact ⟨b1, h1, ⟨vs1, cl1, (hh2 b1 hne).trans h2, h3⟩, h4⟩
  · obtain ⟨es1, h1⟩ := hs.mdead j b1 hj
    rw [hmp]
    split
    · exact ⟨_, rfl⟩
    · exact ⟨es1, h1⟩
  · have hne : j ≠ b := fun e => hm ⟨id, by rw [e]; exact hloc⟩
    exact (hh2 j hne).trans ho
  · rw [hblk] at hb'
    exact ⟨bk, hb', fun _ h => h⟩

theorem mapUpdate_ok {n0 : Nat} (hs : Sim B E H w) {t : TypeId} {m i v : AV} {cm ci cv : Value} {H' : Heap} (hm : VR E m cm) (hi : VR E i ci) (hv : VR E v cv) (h : mapUpdateAV P H t m i v = some H') :
    ∃ w', (Instr.mapUpdate t cm ci cv).run P w = .ok () w' ∧ Res B n0 E H w .bad H' false E w' undef := by
  unfold mapUpdateAV at h
  split at h
  · rename_i kt et hu
    split at h
    · rename_i k id k' n hk
      split at h
      · rename_i hc
        obtain ⟨rfl, hsc⟩ := hc
        obtain ⟨cv', hcv⟩ := Option.isSome_iff_exists.1 hsc
        obtain rfl : cv = cv' := scalar_ok hv hcv
        simp only [Option.bind_eq_some_iff, Option.map_eq_some_iff] at h
        obtain ⟨es, hes, r, hr, rfl⟩ := h
        obtain ⟨b, vs, clock, rfl, hml, hb, hents, hB⟩ := map_at hs hm hes
        obtain rfl := hi.int_inv
        have hck := MapKept.run_checkKey (P := P) (w := w) (k := .int k' n) hk rfl false 9999
        rcases find_spec 0 hents hr with ⟨rfl, h2⟩ | ⟨u, c, j, rfl, h2, h3, h4⟩
        · have hfk := MapKept.run_findKey (P := P) (w := w) hk h2
          refine ⟨_, ?_, hs.mapset (vs' := vs.push ⟨.int k' n, cv, clock⟩) (clock' := clock + 1) hes hml hb hB ?_⟩
          · simp [Instr.mapUpdate, run_underlying hu, MapKept.run_getObj_map hb, hck, hfk, Sem.run_bind, Result.andThen, MapKept.run_setObj_map _ hb]
          · rw [Array.toList_push]
            exact put_new hcv hents hr
        · have hfk := MapKept.run_findKey (P := P) (w := w) hk h3
          simp only [Nat.zero_add] at h3 hfk
          have hkey : ((vs[j]?).map (·.key)).getD (.int k' n) = .int k' n := by
            have : (vs[j]?).map (·.key) = some (.int k' n) := by simpa using h4
            rw [this]; rfl
          have hsame : Instr.sameBits 10000 (.int k' n) (.int k' n) = true := by simp [Instr.sameBits]
          refine ⟨_, ?_, hs.mapset (vs' := vs.modify j fun (e : MapEntry) => { e with key := .int k' n, val := cv }) (clock' := clock) hes hml hb hB ?_⟩
          · simp [Instr.mapUpdate, run_underlying hu, MapKept.run_getObj_map hb, hck, hfk, Sem.run_bind, Result.andThen, MapKept.run_setObj_map _ hb, Instr.keyThatStays, hkey, hsame]
          · rw [Array.toList_modify]
            exact put_old hcv (i := 0) (x := c) hents hr (by simpa using h3)
      · cases h
    · cases h
  · cases h
end
end Go.X
/-
  One operation: what the evaluator tells is what the model does.
-/
namespace Go.X
open Go.RowKit (Below)

/-- Package-level variables, and what they hold. -/
def GlobOk (G : Nat → Option AV) (E : Env) : Prop := ∀ g v, G g = some v → VR E (.iptr v) (.pointer (some ⟨g, 0, none⟩))

theorem GlobOk.evol {G : Nat → Option AV} {E E' : Env} {k : Nat} (h : GlobOk G E) (he : Evol k E E') : GlobOk G E' := fun g v hg => by
  obtain ⟨cs, h1, h2⟩ := (show PR E (.iptr v) _ from h g v hg)
  exact VR.of_PR ⟨cs, h1.evol (he.mono (Nat.zero_le _)) (Nat.zero_le _) (by simp [refsL, AV.refs]), h2⟩

/-- What is asked of an oracle. -/
def OracleSound (P : Program) (B : Nat) (G : Nat → Option AV) (K : Oracle) : Prop :=
  ∀ f args H v H' e, K f args H = some (v, H', e) → ∀ (E : Env) (w : World) (cargs : List Value), Sim B E H w → GlobOk G E → args.length = cargs.length →
    (∀ (i : Nat) (v : AV) (c : Value), args[i]? = some v → cargs[i]? = some c → VR E v c) →
    Calls P f cargs.toArray w fun en w' => ∃ c E', en = .returned c ∧ Res B H.length E H w v H' e E' w' c

/-- What is asked of what is told of functions without a body here. -/
def ExtSound (P : Program) (B : Nat) (X : Oracle) : Prop :=
  ∀ f args H v H' e, X f args H = some (v, H', e) → ∀ (n0 : Nat) (E : Env) (w : World) (cargs : List Value), Sim B E H w → n0 ≤ H.length → args.length = cargs.length →
    (∀ (i : Nat) (v : AV) (c : Value), args[i]? = some v → cargs[i]? = some c → VR E v c) →
    ∃ c w' E', (callFunc f cargs.toArray).run P w = .ok (.value c) w' ∧ Res B n0 E H w v H' e E' w' c

/-- What is asked of what is told of yield, from a place on. -/
def YOk (P : Program) (B : Nat) (Y : Yld) (n0 : Nat) (E0 : Env) (w0 : World) : Prop :=
  ∀ args H H' e, Y args H = some (H', e) → ∀ (E : Env) (w : World) (cargs : List Value), Tr B n0 E0 w0 E w → Sim B E H w → n0 ≤ H.length → args.length = cargs.length →
    (∀ (i : Nat) (v : AV) (c : Value), args[i]? = some v → cargs[i]? = some c → VR E v c) →
    ∃ fn tmps assign body, (Instr.yield E.yl cargs.toArray).run P w = .ok (.round E.yl fn tmps assign body) w ∧
      RoundIn Fence.wide 0 P E.yl fn tmps assign body w fun en w' => en = .returned (.bool true) ∧ ∃ E', Res B H.length E H w (.bool true) H' e E' w' (.bool true)

/-- What is asked of what is told of iterators. -/
def RgSound (P : Program) (B : Nat) (G : Nat → Option AV) (Rg : Yld → Oracle) : Prop :=
  ∀ Y f args H v H' e, Rg Y f args H = some (v, H', e) → ∀ (E : Env) (w : World) (cargs : List Value), Sim B E H w → GlobOk G E → YOk P B Y H.length E w → args.length = cargs.length →
    (∀ (i : Nat) (v : AV) (c : Value), args[i]? = some v → cargs[i]? = some c → VR E v c) →
    Calls P f cargs.toArray w fun en w' => ∃ c E', en = .returned c ∧ Res B H.length E H w v H' e E' w' c

theorem YOk.no {P : Program} {B n0 : Nat} {E0 : Env} {w0 : World} : YOk P B noY n0 E0 w0 := fun _ _ _ _ h => by cases h
theorem RgSound.no {P : Program} {B : Nat} {G : Nat → Option AV} : RgSound P B G noR := fun _ _ _ _ _ _ _ h => by cases h

structure Snd (C : Ctx) (B : Nat) (E0 : Env) (w0 : World) : Prop where
  k : OracleSound C.P B C.U.G C.K
  x : ExtSound C.P B C.U.X
  g : GlobOk C.U.G E0
  y : YOk C.P B C.Y C.n0 E0 w0
  r : RgSound C.P B C.U.G C.Rg

structure SR (C : Ctx) (B : Nat) (E : Env) (s : St) (a : Act) (w : World) : Prop where
  sim : Sim B E s.H w
  vals : ∀ t, VR E (s.get C.A t) (a.tmps.getD t undef)
  size : a.tmps.size = C.N
  len : C.n0 ≤ s.H.length

section
variable {C : Ctx} {B : Nat} {E : Env} {s : St} {a : Act} {w : World}

theorem SR.eval (h : SR C B E s a w) (x : Operand) : VR E (s.eval C.A x) (a.eval x) := by
  cases x with
  | tmp t => exact h.vals t
  | const c => exact const_ok c
  | global g => trivial
  | func f => exact VR.of_PR (v := .func (.func f) [] []) ⟨[_], .func (cx := []) (cy := []) (by simp) .nil .nil .nil, rfl⟩

theorem look_upd (l : List (Nat × AV)) (d t : Nat) (v : AV) : look (upd l d v) t = if t = d then (look (upd l d v) d) else look l t := by
  induction l with
  | nil => simp [upd, look]
  | cons x l ih =>
    obtain ⟨k, u⟩ := x
    unfold upd
    split
    · rename_i hk
      subst hk
      by_cases ht : t = k
      · simp [ht]
      · have : ¬ k = t := fun e => ht e.symm
        simp [look, ht, this]
    · rename_i hk
      by_cases ht : t = d
      · simp [ht]
      · simp only [look, if_neg ht] at ih ⊢
        split
        · rfl
        · exact ih

theorem look_upd_self (l : List (Nat × AV)) (d : Nat) (v : AV) : look (upd l d v) d = v ∨ look (upd l d v) d = .bad := by
  induction l with
  | nil => right; rfl
  | cons x l ih =>
    obtain ⟨k, u⟩ := x
    unfold upd
    split
    · rename_i hk
      subst hk
      left
      simp [look]
    · rename_i hk
      simp only [look, if_neg hk]
      exact ih

theorem SR.set (h : SR C B E s a w) {d : Nat} {v : AV} {c : Value} (hv : VR E v c) (hd : d < C.N ∨ v = .bad ∨ c = undef) : SR C B E (s.set C.A d v) (a.put (some d) c) w := by
  refine ⟨?_, fun t => ?_, by simp [Act.put, h.size], ?_⟩
  · unfold St.set; split <;> exact h.sim
  · have hput : (a.put (some d) c).tmps.getD t undef = if d = t ∧ d < a.tmps.size then c else a.tmps.getD t undef := by
      simp only [Act.put]
      by_cases hdt : d = t
      · subst hdt
        by_cases hlt : d < a.tmps.size
        · simp [hlt]
        · simp [hlt]
      · simp [hdt, Array.getElem?_setIfInBounds_ne hdt]
    rw [hput]
    have hself : (s.set C.A d v).get C.A d = v ∨ (s.set C.A d v).get C.A d = .bad := by
      unfold St.set St.get
      split
      · simp only; exact look_upd_self _ _ _
      · simp [look]
    by_cases hdt : d = t
    · subst hdt
      rcases hself with h1 | h1
      · rw [h1]
        rcases hd with hd | rfl | rfl
        · rw [if_pos ⟨rfl, by rw [h.size]; exact hd⟩]; exact hv
        · trivial
        · by_cases hlt : d < a.tmps.size
          · rw [if_pos ⟨rfl, hlt⟩]; exact hv
          · rw [if_neg (fun hh => hlt hh.2), Array.getD_eq_getD_getElem?, Array.getElem?_eq_none (by omega)]
            exact hv
      · rw [h1]; trivial
    · rw [if_neg (fun hh => hdt hh.1)]
      have : (s.set C.A d v).get C.A t = s.get C.A t := by
        unfold St.set St.get
        split
        · split
          · simp only
            rw [look_upd, if_neg (fun e => hdt e.symm)]
          · rfl
        · split
          · rfl
          · simp [look, hdt]
      rw [this]
      exact h.vals t
  · unfold St.set; split <;> exact h.len

/-- The state goes on in a later memory. -/
theorem SR.later {E' : Env} {w' : World} {H' : Heap} {e : Bool} (h : SR C B E s a w) {n0 : Nat} {v : AV} {c : Value} (hr : Res B n0 E s.H w v H' e E' w' c) : SR C B E' { s with H := H', esc := s.esc || e } a w' := by
  have htop : E.top ≤ E'.top := by rw [h.sim.top, hr.sim.top]; exact hr.len
  refine ⟨hr.sim, fun t => (h.vals t).later ?_ htop, h.size, Nat.le_trans h.len hr.len⟩
  rw [h.sim.top]
  exact hr.tr.evol

end
end Go.X
/-
  Each operation: what the evaluator tells is what the model does.
-/
namespace Go.X
open Go.RowKit (Below)

section
variable {C : Ctx} {B : Nat} {E : Env} {s : St} {a : Act} {w : World}

theorem q_inv {r : Option AV} {v : AV} {H H' : Heap} {e : Bool} (h : (r.map fun v => (v, H, false)) = some (v, H', e)) : r = some v ∧ H' = H ∧ e = false := by
  simp only [Option.map_eq_some_iff, Prod.mk.injEq] at h
  obtain ⟨u, h1, rfl, rfl, rfl⟩ := h
  exact ⟨h1, rfl, rfl⟩

theorem value_wp {P : Program} {o : Oper} {next : Act → World → Prop} {Q : Exit → Act → World → Prop} {c : Value} {w' : World}
    (h : (execOp a.eval o).run P w = .ok (.value c) w') (hn : next (a.put o.dst c) w') : o.wp P a w next Q := by
  unfold Oper.wp
  rw [h]
  exact hn

theorem skip_wp {P : Program} {o : Oper} {next : Act → World → Prop} {Q : Exit → Act → World → Prop} {w' : World}
    (h : (execOp a.eval o).run P w = .ok .skip w') (hn : next (a.put o.dst undef) w') : o.wp P a w next Q := by
  unfold Oper.wp
  rw [h]
  exact hn

theorem value_run {P : Program} {e : Sem Value} {c : Value} {w w' : World} (h : e.run P w = .ok c w') : ((do pure (Next.value (← e))) : Sem Next).run P w = .ok (.value c) w' := by
  simp [h]

theorem parts_ok (hR : SR C B E s a w) : ∀ (ps : List (Nat × Operand)), Parts E (ps.map fun x => (x.1, s.eval C.A x.2)) (ps.map fun (i, x) => (i, a.eval x))
  | [] => .nil
  | (_, x) :: ps => .cons (hR.eval x) (parts_ok hR ps)

theorem leaves_ok (hR : SR C B E s a w) : ∀ (xs : List Operand), (xs.map (s.eval C.A)).all (fun v => v.plain && !v.isAgg) = true → FR E (xs.map (s.eval C.A)) (xs.map a.eval)
  | [], _ => .nil
  | x :: xs, h => by
    simp only [List.map_cons, List.all_cons, Bool.and_eq_true, Bool.not_eq_true'] at h
    have h1 := ((hR.eval x).toPR h.1.1).leaf h.1.2
    exact FR.cons h1 (leaves_ok hR xs (by simpa using h.2))

theorem scal_pure {P : Program} {op : BinOp} {x y : Operand} {t : TypeId} {cx cy : Value} {va vb : AV} (ha : va.scalar = some cx) (hb : vb.scalar = some cy) (w : World) :
    (eqGuard op t x y cx cy).run P w = .ok () w := by
  cases va <;> simp only [AV.scalar, Option.some.injEq, reduceCtorEq] at ha <;> cases vb <;> simp only [AV.scalar, Option.some.injEq, reduceCtorEq] at hb <;> subst ha hb <;>
    (unfold eqGuard; split <;> simp)

/-- A function's call. -/
theorem enter_ok (hk : OracleSound C.P B C.U.G C.K) (hx : ExtSound C.P B C.U.X) (hG : GlobOk C.U.G E) (hR : SR C B E s a w) {o : Oper} {v : AV} {H' : Heap} {e : Bool} {f : FuncId} {args : List AV} {cargs : List Value} (h : enterAV C f args s = some (v, H', e))
    (hlen : args.length = cargs.length) (hv : ∀ (i : Nat) (v : AV) (c : Value), args[i]? = some v → cargs[i]? = some c → VR E v c)
    (hrun : (execOp a.eval o).run C.P w = (callFunc f cargs.toArray).run C.P w)
    {next : Act → World → Prop} {Q : Exit → Act → World → Prop} (hn : ∀ E' w' c, Res B C.n0 E s.H w v H' e E' w' c → next (a.put o.dst c) w') : o.wp C.P a w next Q := by
  unfold enterAV at h
  split at h
  · rename_i fn hf
    split at h
    · rename_i body hb
      split at h
      · rename_i hnm
        have hcall : (callFunc f cargs.toArray).run C.P w = .ok (.enter f cargs.toArray) w := by
          have h2 : ¬ fn.body = none := fun e => by simp [e] at hb
          simp [callFunc, hf, hnm, h2]
        unfold Oper.wp
        rw [hrun, hcall]
        refine (hk f args s.H v H' e h E w cargs hR.sim hG hlen hv).mono ?_
        rintro en w' ⟨c, E', rfl, hr⟩
        exact hn E' w' c ⟨hr.sim, hr.val, hr.tr, hr.len, fun he => (hr.sub he).mono hR.len⟩
      · simp at h
    · obtain ⟨c, w', E', h1, h2⟩ := hx f args s.H v H' e h C.n0 E w cargs hR.sim hR.len hlen hv
      exact value_wp (by rw [hrun]; exact h1) (hn E' w' c h2)
  · simp at h

theorem args_ok (hR : SR C B E s a w) (xs : List Operand) : ∀ (i : Nat) (v : AV) (c : Value), (xs.map (s.eval C.A))[i]? = some v → (xs.map a.eval)[i]? = some c → VR E v c := by
  intro i v c h1 h2
  simp only [List.getElem?_map, Option.map_eq_some_iff] at h1 h2
  obtain ⟨x, hx, rfl⟩ := h1
  obtain ⟨y, hy, rfl⟩ := h2
  obtain rfl : x = y := by rw [hx] at hy; exact Option.some.inj hy
  exact hR.eval x

theorem leaf_list {E : Env} : ∀ {vs : List AV} {cs : List Value}, FR E vs cs → (∀ x ∈ vs, x.isAgg = false) → vs.length = cs.length ∧ ∀ (i : Nat) (v : AV) (c : Value), vs[i]? = some v → cs[i]? = some c → VR E v c
  | [], cs, h, _ => by
    cases h
    exact ⟨rfl, fun i v c hv => by simp at hv⟩
  | x :: vs, cs, h, ha => by
    obtain ⟨c1, c2, rfl, h1, h2⟩ := h.cons_inv
    obtain ⟨c, rfl, hp⟩ := h1.one_leaf (ha x List.mem_cons_self)
    obtain ⟨k1, k2⟩ := leaf_list h2 (fun y hy => ha y (List.mem_cons_of_mem _ hy))
    refine ⟨by simp [k1], fun i v d hv hd => ?_⟩
    cases i with
    | zero =>
      simp only [List.getElem?_cons_zero, Option.some.injEq, List.singleton_append] at hv hd
      subst hv hd
      exact VR.of_PR ⟨[_], h1, hp.symm⟩
    | succ i =>
      simp only [List.getElem?_cons_succ, List.singleton_append] at hv hd
      exact k2 i v d hv hd

theorem append_vals {E : Env} {xs ys : List AV} {cx cy : List Value} (hl : xs.length = cx.length) (hx : ∀ (i : Nat) (v : AV) (c : Value), xs[i]? = some v → cx[i]? = some c → VR E v c)
    (hy : ∀ (i : Nat) (v : AV) (c : Value), ys[i]? = some v → cy[i]? = some c → VR E v c) : ∀ (i : Nat) (v : AV) (c : Value), (xs ++ ys)[i]? = some v → (cx ++ cy)[i]? = some c → VR E v c := by
  intro i v c h1 h2
  rcases Nat.lt_or_ge i xs.length with h | h
  · rw [List.getElem?_append_left h] at h1
    rw [List.getElem?_append_left (by omega)] at h2
    exact hx i v c h1 h2
  · rw [List.getElem?_append_right h] at h1
    rw [List.getElem?_append_right (by omega)] at h2
    exact hy _ v c h1 (by rw [hl]; exact h2)

theorem callee_ok {fv : AV} {cf : Value} {args : List AV} {cargs : List Value} {f : FuncId} {all : List AV} (hf : VR E fv cf) (h : calleeAV C.P fv args = some (f, all)) (hl : args.length = cargs.length)
    (hv : ∀ (i : Nat) (v : AV) (c : Value), args[i]? = some v → cargs[i]? = some c → VR E v c) :
    ∃ first captured : List Value, cf = .func (.func f) first.toArray captured.toArray ∧ all.length = (first ++ (cargs ++ captured)).length ∧
      ∀ (i : Nat) (v : AV) (c : Value), all[i]? = some v → (first ++ (cargs ++ captured))[i]? = some c → VR E v c := by
  unfold calleeAV at h
  split at h
  · rename_i g first captured
    obtain ⟨rfl, rfl⟩ := by simpa using h
    have h1 := (show PR E (.func _ first captured) cf from hf).leaf rfl
    cases h1 with
    | func ha hx hy hnil =>
    rename_i cx cy
    obtain ⟨l1, v1⟩ := leaf_list hx (fun x hx => ha x (List.mem_append.2 (.inl hx)))
    obtain ⟨l2, v2⟩ := leaf_list hy (fun x hx => ha x (List.mem_append.2 (.inr hx)))
    exact ⟨cx, cy, rfl, by simp [l1, l2, hl], append_vals l1 v1 (append_vals hl hv v2)⟩
  · simp at h
  · simp at h

theorem method_ok {P : Program} {E : Env} {w : World} {r rv : AV} {cr : Value} {m : String} {f : FuncId} (hr : VR E r cr) (h : methodAV P r m = some (f, rv)) (args : List Value) :
    ∃ crv, (callMethod cr m args.toArray).run P w = (callFunc f (crv :: args).toArray).run P w ∧ VR E rv crv := by
  unfold methodAV at h
  split at h
  · rename_i t v
    simp only [Option.bind_eq_some_iff] at h
    obtain ⟨i, hi, mt, hm, h⟩ := h
    split at h
    · rename_i hp
      simp only [Option.bind_eq_some_iff, Prod.exists] at h
      obtain ⟨g, pr, hfn, h⟩ := h
      obtain ⟨cv, rfl, hcv⟩ := PR.iface_inv (show PR E (.iface t v) cr from hr)
      have hpath : mt.path = #[] := Array.isEmpty_iff.1 hp
      have hd : ∃ k, P.types.size + Made.depth = k + 1 := ⟨P.types.size + 99, rfl⟩
      obtain ⟨k, hk⟩ := hd
      have key : (method (P.types.size + Made.depth) t cv m).run P w = .ok (f, cv) w ∧ rv = v := by
        rw [hk]
        split at h
        · rename_i e hu
          obtain ⟨rfl, rfl⟩ := by simpa using h
          exact ⟨by simp [method, typeInfo, hi, hm, hpath, follow, hfn, receiverAt, run_underlying hu, Place.get], rfl⟩
        · simp at h
        · rename_i d hnp hu
          obtain ⟨rfl, rfl⟩ := by simpa using h
          refine ⟨?_, rfl⟩
          cases d <;> first | (simp [method, typeInfo, hi, hm, hpath, follow, hfn, receiverAt, run_underlying hu, Place.get]; done) | (exfalso; exact hnp _ rfl)
        · simp at h
      obtain ⟨key, rfl⟩ := key
      refine ⟨cv, ?_, VR.of_PR hcv⟩
      simp [callMethod, key]
    · rename_i hnp
      split at h
      · rename_i st hst
        split at h
        · simp at h
        · rename_i hder
          simp only [Option.bind_eq_some_iff, Prod.exists] at h
          obtain ⟨g, pr, hfn, h⟩ := h
          split at h
          · rename_i fs hu
            simp only [Option.bind_eq_some_iff] at h
            obtain ⟨fl, hfl, q, hq, h⟩ := h
            split at h
            · rename_i e hue
              obtain ⟨rfl, rfl⟩ := by simpa using h
              obtain ⟨cv, rfl, hcv⟩ := PR.iface_inv (show PR E (.iface t v) cr from hr)
              obtain ⟨k, hk⟩ : ∃ k, P.types.size + Made.depth = k + 1 := ⟨P.types.size + 99, rfl⟩
              have hd0 : st.deref = false := by simpa using hder
              cases v <;> simp only [fieldAV, reduceCtorEq] at hq
              rename_i n ps
              simp only [Option.bind_eq_some_iff] at hq
              obtain ⟨fl', hfl', p, hp, hq⟩ := hq
              split at hq
              · rename_i hc
                obtain rfl := Option.some.inj hq
                have hff : fl' = fl := by
                  unfold fieldOf at hfl'
                  rw [hu] at hfl'
                  exact Option.some.inj (hfl'.symm.trans hfl)
                subst hff
                obtain ⟨cs, rfl, hf, _⟩ := PR.agg_inv (show PR E (.agg n ps) cv from hcv)
                obtain ⟨pre, mid, post, rfl, hpre, hm', _⟩ := hf.nth hp
                have hpart := run_part' (P := P) (w := w) (post := post) hm' (hpre.trans hc.1) hc.2.1 hc.2.2
                refine ⟨pack p mid, ?_, .of_PR (.of_cells hm')⟩
                rw [List.append_assoc] at hpart
                have key : (method (P.types.size + Made.depth) t (.agg (pre ++ mid ++ post).toArray) m).run P w = .ok (g, pack p mid) w := by
                  rw [hk, List.append_assoc]
                  simp [method, typeInfo, hi, hm, hst, follow, Sem.run_bind, run_underlying hu, hfl, hd0, hpart, hfn, receiverAt, run_underlying hue, Place.get]
                rw [List.append_assoc] at key
                simp [callMethod, key]
              · simp at hq
            · simp at h
          · simp at h
      · simp at h
  · simp at h
end
end Go.X
/-
  Each operation: what the evaluator tells is what the model does.
-/
namespace Go.X
open Go.RowKit (Below)

section
variable {C : Ctx} {B : Nat} {E : Env} {s : St} {a : Act} {w : World}

def isScal : Value → Bool
  | .int .. | .float .. | .complex .. | .string _ | .bool _ => true
  | _ => false

theorem not_scal {E : Env} {v : AV} {c : Value} (h : PR E v c) (hs : v.scalar = none) : isScal c = false := by
  obtain ⟨cs, h1, rfl⟩ := h
  cases h1 <;> first | rfl | simp [AV.scalar] at hs

theorem binOp_eq {P : Program} {w : World} {t : TypeId} {cx cy : Value} (hx : isScal cx = false) (hy : isScal cy = false) {r : Bool} (h : (Op.equal t cx cy).run P w = .ok r w) :
    (binOp .eql t cx cy).run P w = .ok (.bool r) w ∧ (binOp .neq t cx cy).run P w = .ok (.bool !r) w := by
  cases cx <;> simp only [isScal, reduceCtorEq] at hx <;> cases cy <;> simp only [isScal, reduceCtorEq] at hy <;> simp [binOp, h]

theorem nili_of {E : Env} {x : AV} (h : PR E x .nilIface) : x = .nili := by
  obtain ⟨cs, h1, h2⟩ := h
  cases h1 <;> simp [pack, AV.isAgg] at h2 ⊢

theorem agg_of {E : Env} {x : AV} {c : Value} (h : PR E x c) (hc : isAggV c = true) : x.isAgg = true := by
  obtain ⟨cs, h1, rfl⟩ := h
  cases h1 <;> first | rfl | simp [pack, AV.isAgg, isAggV] at hc

theorem guard_run {P : Program} {w : World} {op : BinOp} {t : TypeId} {ox oy : Operand} {cx cy : Value} (hn : ¬ (cx = .nilIface ∧ cy = .nilIface)) (ha : isAggV cx = true → P.eqGuardType P.depth t = false) :
    (eqGuard op t ox oy cx cy).run P w = .ok () w := by
  cases cx
  case nilIface =>
    cases cy
    case nilIface => exact absurd ⟨rfl, rfl⟩ hn
    all_goals (unfold eqGuard; cases op <;> rfl)
  case agg cs =>
    have ha' := ha rfl
    cases cy
    case agg ds => unfold eqGuard; cases op <;> first | rfl | simp [ha']
    all_goals (unfold eqGuard; cases op <;> rfl)
  all_goals (unfold eqGuard; cases op <;> rfl)

theorem equalIn_nil {P : Program} {w : World} {t : TypeId} {ms : Array (String × TypeId)} (hu : P.underlying t = some (.interface ms)) (d : Nat) : (Op.equalIn (d + 1) t .nilIface .nilIface).run P w = .ok true w := by
  simp [Op.equalIn, run_underlying hu]

/-- '==' and '!=' where not both are numbers, texts or bools. -/
theorem equalIn_bool {P : Program} {w : World} {t : TypeId} {a b : Bool} (hu : P.underlying t = some .bool) (d : Nat) : (Op.equalIn (d + 1) t (.bool a) (.bool b)).run P w = .ok (a == b) w := by
  simp [Op.equalIn, run_underlying hu, Sem.run_bind]

theorem scalBin_ok {P : Program} {E : Env} {o : BinOp} {t : TypeId} {cx cy : Value} {v : AV} (h : scalBin P o t cx cy = some v) (w : World) : ∃ c, (binOp o t cx cy).run P w = .ok c w ∧ VR E v c := by
  unfold scalBin at h
  split at h
  · rename_i a b
    split at h
    · rename_i hu
      obtain rfl := Option.some.inj h
      have he : (Op.equal t (.bool a) (.bool b)).run P w = .ok (a == b) w := by
        exact equalIn_bool hu 9999
      exact ⟨_, by simp [binOp, he], VR.bool⟩
    · simp at h
  · rename_i a b
    split at h
    · rename_i hu
      obtain rfl := Option.some.inj h
      have he : (Op.equal t (.bool a) (.bool b)).run P w = .ok (a == b) w := by
        exact equalIn_bool hu 9999
      exact ⟨_, by simp [binOp, he], VR.bool⟩
    · simp at h
  · exact liftPure_ok h w

theorem eq_ok {P : Program} {E : Env} {w : World} {t : TypeId} {x y : AV} {cx cy : Value} {r : Bool} {ox oy : Operand} (hx : VR E x cx) (hy : VR E y cy) (sx : x.scalar = none) (sy : y.scalar = none)
    (hg : (x.isAgg && P.eqGuardType P.depth t) = false) (h : eqNil P t ox oy x y = some r) :
    (do eqGuard .eql t ox oy cx cy; binOp .eql t cx cy).run P w = .ok (.bool r) w ∧ (do eqGuard .neq t ox oy cx cy; binOp .neq t cx cy).run P w = .ok (.bool !r) w := by
  unfold eqNil at h
  split at h
  · split at h
    · rename_i hc
      obtain rfl := Option.some.inj h
      obtain rfl := PR.nili_inv (show PR E .nili cx from hx)
      obtain rfl := PR.nili_inv (show PR E .nili cy from hy)
      simp only [Bool.and_eq_true] at hc
      obtain ⟨hc, hu⟩ := hc
      unfold tiface at hu
      split at hu
      · rename_i ms hu'
        have he : (Op.equal t .nilIface .nilIface).run P w = .ok true w := by
          exact equalIn_nil hu' 9999
        have hb := binOp_eq (P := P) (w := w) (t := t) (cx := .nilIface) (cy := .nilIface) rfl rfl he
        have hgd : ∀ op, (eqGuard op t ox oy .nilIface .nilIface).run P w = .ok () w := fun op => by
          unfold eqGuard
          cases ox <;> cases oy <;> simp [isConstO] at hc <;> simp
        simp [hgd, hb.1, hb.2]
      · simp at hu
    · simp at h
  · rename_i hnn
    have hpx : x.plain = true := by cases x <;> first | rfl | (cases d : P.underlying t <;> simp [eqAV, d] at h)
    have hpy : y.plain = true := by cases y <;> first | rfl | (cases x <;> cases d : P.underlying t <;> simp [eqAV, d] at h)
    have h1 := hx.toPR hpx
    have h2 := hy.toPR hpy
    have he := eqAV_ok (P := P) (w := w) 30 9970 t x y cx cy r h1 h2 h
    have hb := binOp_eq (P := P) (w := w) (t := t) (not_scal h1 sx) (not_scal h2 sy) (show (Op.equal t cx cy).run P w = .ok r w from he)
    have hgd : ∀ op, (eqGuard op t ox oy cx cy).run P w = .ok () w := fun op => by
      refine guard_run (fun hh => ?_) (fun hh => ?_)
      · obtain ⟨rfl, rfl⟩ := hh
        exact hnn (nili_of h1) (nili_of h2)
      · simpa [agg_of h1 hh] using hg
    simp [hgd, hb.1, hb.2]

theorem len_ok {E : Env} {x : AV} {cx : Value} {n : Nat} (hx : VR E x cx) (h : x.len = some n) (hns : ∀ s, x ≠ .str s) : ∃ base cap, cx = .slice base n cap := by
  cases x <;> simp only [AV.len, Option.some.injEq, reduceCtorEq] at h
  · exact absurd rfl (hns _)
  · subst h
    have k := (show PR E .nils cx from hx).leaf rfl
    cases k
    exact ⟨_, _, rfl⟩
  · subst h
    obtain ⟨a, cap, rfl, _⟩ := PR.sl_inv (show PR E (.sl _ _ _ _ _) cx from hx)
    exact ⟨_, _, rfl⟩
  · subst h
    obtain ⟨b, o, sp, c1, cap, rfl, _⟩ := PR.isl_inv (show PR E (.isl _ _) cx from hx)
    exact ⟨_, _, rfl⟩

theorem scalars_ok {E : Env} : ∀ {xs : List AV} {cs ds : List Value}, (xs.length = cs.length) → (∀ (i : Nat) (v : AV) (c : Value), xs[i]? = some v → cs[i]? = some c → VR E v c) → xs.mapM AV.scalar = some ds → cs = ds
  | [], cs, ds, hl, _, h => by
    simp at h
    subst h
    exact List.eq_nil_of_length_eq_zero hl.symm
  | x :: xs, cs, ds, hl, hv, h => by
    cases cs with
    | nil => simp at hl
    | cons c cs =>
      simp only [List.mapM_cons, Option.bind_eq_bind, Option.pure_def, Option.bind_eq_some_iff] at h
      obtain ⟨d, hd, ds', hds, h⟩ := h
      obtain rfl := Option.some.inj h
      have e1 := scalar_ok (hv 0 x c rfl rfl) hd
      have e2 := scalars_ok (cs := cs) (ds := ds') (by simpa using hl) (fun i v c h1 h2 => hv (i + 1) v c (by simpa using h1) (by simpa using h2)) hds
      rw [e1, e2]

theorem builtin_ok (hR : SR C B E s a w) {o : Oper} {c : Call} {b : Builtin} {v : AV} {H' : Heap} {e : Bool} (ho : o.op = .call c) (hb : c.callee = .builtin b) (h : evalBuiltin C b c.argTypes (c.args.toList.map (s.eval C.A)) s = some (v, H', e))
    {next : Act → World → Prop} {Q : Exit → Act → World → Prop} (hn : ∀ E' w' c, Res B C.n0 E s.H w v H' e E' w' c → next (a.put o.dst c) w') : o.wp C.P a w next Q := by
  have hs := hR.sim
  have hargs := args_ok hR c.args.toList
  have hcl : (c.args.map a.eval).toList = c.args.toList.map a.eval := by simp
  have hlen : (c.args.toList.map (s.eval C.A)).length = (c.args.toList.map a.eval).length := by simp
  generalize c.args.toList.map (s.eval C.A) = avs at h hargs hlen
  generalize hcvs : c.args.toList.map a.eval = cvs at hargs hlen hcl
  have hcm : c.args.map a.eval = cvs.toArray := by rw [← hcl]
  have run : ∀ {e' : Sem Value}, (∀ consts, builtin b c.argTypes o.type consts cvs.toArray = (do pure (Next.value (← e')))) → (execOp a.eval o).run C.P w = ((do pure (Next.value (← e'))) : Sem Next).run C.P w := fun {e'} hh => by
    unfold execOp
    simp only [ho, resolve, hb]
    simp [invoke, hcm, hh]
  have pure_ : ∀ {r : Option AV} {e' : Sem Value}, (∀ consts, builtin b c.argTypes o.type consts cvs.toArray = (do pure (Next.value (← e')))) → (r.map fun v => (v, s.H, false)) = some (v, H', e) → (∀ u, r = some u → ∃ c, e'.run C.P w = .ok c w ∧ VR E u c) →
      o.wp C.P a w next Q := fun {r e'} he hq hc => by
    obtain ⟨h1, rfl, rfl⟩ := q_inv hq
    obtain ⟨c, h2, h3⟩ := hc _ h1
    exact value_wp (by rw [run he]; exact value_run h2) (hn E w c (Res.same hs h3))
  have two : ∀ {x y : AV}, avs = [x, y] → ∃ cx cy, cvs = [cx, cy] ∧ VR E x cx ∧ VR E y cy := fun {x y} hx => by
    subst hx
    match cvs, hlen with
    | [cx, cy], _ => exact ⟨cx, cy, rfl, hargs 0 x cx rfl rfl, hargs 1 y cy rfl rfl⟩
  have one : ∀ {x : AV}, avs = [x] → ∃ cx, cvs = [cx] ∧ VR E x cx := fun {x} hx => by
    subst hx
    match cvs, hlen with
    | [cx], _ => exact ⟨cx, rfl, hargs 0 x cx rfl rfl⟩
  unfold evalBuiltin at h
  split at h
  · -- len
    rename_i x
    obtain ⟨cx, rfl, hx⟩ := one rfl
    simp only [Option.bind_eq_some_iff] at h
    obtain ⟨t, ht, h⟩ := h
    split at h
    · rename_i n el hu
      exact pure_ (e' := Builtin.len_ c.argTypes o.type #[cx]) (fun _ => rfl) h (fun u hu' => by
        obtain rfl := Option.some.inj hu'
        exact ⟨_, by simp [Builtin.len_, ht, run_underlying hu, goInt], VR.int⟩)
    · rename_i ar hu
      split at h
      · rename_i n el hu2
        exact pure_ (e' := Builtin.len_ c.argTypes o.type #[cx]) (fun _ => rfl) h (fun u hu' => by
          obtain rfl := Option.some.inj hu'
          exact ⟨_, by simp [Builtin.len_, ht, run_underlying hu, run_underlying hu2, goInt], VR.int⟩)
      · simp at h
    · rename_i hu
      split at h
      · rename_i str
        obtain rfl := hx.str_inv
        exact pure_ (e' := Builtin.len_ c.argTypes o.type #[.string str]) (fun _ => rfl) h (fun u hu' => by
          obtain rfl := Option.some.inj hu'
          exact ⟨_, by simp [Builtin.len_, ht, run_underlying hu, goInt], VR.int⟩)
      · simp at h
    · rename_i el hu
      split at h
      · simp at h
      · rename_i hns
        exact pure_ (e' := Builtin.len_ c.argTypes o.type #[cx]) (fun _ => rfl) h (fun u hu' => by
          simp only [Option.map_eq_some_iff] at hu'
          obtain ⟨n, hn', rfl⟩ := hu'
          obtain ⟨base, cap, rfl⟩ := len_ok hx hn' hns
          exact ⟨_, by simp [Builtin.len_, ht, run_underlying hu, goInt], VR.int⟩)
    · simp at h
  · -- min
    rename_i x xs
    match cvs, hlen with
    | cx :: cs, hlen =>
      exact pure_ (e' := Builtin.min_ c.argTypes o.type (cx :: cs).toArray) (fun _ => rfl) h (fun u hu' => by
        simp only [Option.bind_eq_some_iff] at hu'
        obtain ⟨d, hd, ds, hds, hu'⟩ := hu'
        have e1 := scalar_ok (hargs 0 x cx rfl rfl) hd
        have e2 := scalars_ok (by simpa using hlen) (fun i v c h1 h2 => hargs (i + 1) v c (by simpa using h1) (by simpa using h2)) hds
        subst e1 e2
        obtain ⟨r, h1, h2⟩ := liftPure_ok (E := E) (P := C.P) hu' w
        exact ⟨r, by simpa [Builtin.min_] using h1, h2⟩)
  · -- max
    rename_i x xs
    match cvs, hlen with
    | cx :: cs, hlen =>
      exact pure_ (e' := Builtin.max_ c.argTypes o.type (cx :: cs).toArray) (fun _ => rfl) h (fun u hu' => by
        simp only [Option.bind_eq_some_iff] at hu'
        obtain ⟨d, hd, ds, hds, hu'⟩ := hu'
        have e1 := scalar_ok (hargs 0 x cx rfl rfl) hd
        have e2 := scalars_ok (by simpa using hlen) (fun i v c h1 h2 => hargs (i + 1) v c (by simpa using h1) (by simpa using h2)) hds
        subst e1 e2
        obtain ⟨r, h1, h2⟩ := liftPure_ok (E := E) (P := C.P) hu' w
        exact ⟨r, by simpa [Builtin.max_] using h1, h2⟩)
  · -- append
    rename_i x y
    obtain ⟨cx, cy, rfl, hx, hy⟩ := two rfl
    simp only [Option.bind_eq_some_iff] at h
    obtain ⟨t, ht, u, hu, h⟩ := h
    split at h
    · rename_i el d htu hud
      split at h
      · simp at h
      · rename_i hk
        simp only [Option.bind_eq_some_iff, Option.map_eq_some_iff, Prod.exists, Prod.mk.injEq] at h
        obtain ⟨sz, hsz, xs, hxs, ys, H1, hfz, v', H2, happ, rfl, rfl, rfl⟩ := h
        obtain ⟨cells, hsrc⟩ := srcAV_ok (P := C.P) hs hy hxs
        have hfrz : ∃ E1, Frz B C.n0 E s.H w E1 H1 ∧ Src C.P E1 w sz ys cy cells := by
          split at hfz
          · obtain ⟨E1, g1, g2, g3⟩ := freezeL_ok xs E s.H ys H1 cells hs hsrc.fr hfz
            refine ⟨E1, g1, g2, fun u hu => ?_, ?_, ?_⟩
            · have : u.flatLen ∈ ys.map AV.flatLen := List.mem_map_of_mem hu
              rw [g3] at this
              obtain ⟨z, hz, hzu⟩ := List.mem_map.1 this
              rw [← hzu]
              exact hsrc.each z hz
            · have hl : ys.length = xs.length := by rw [← List.length_map (f := AV.flatLen), g3, List.length_map]
              rw [hl]; exact hsrc.len
            · have hl : ys.length = xs.length := by rw [← List.length_map (f := AV.flatLen), g3, List.length_map]
              rw [hl]; exact hsrc.first
          · simp only [Option.some.injEq, Prod.mk.injEq] at hfz
            obtain ⟨rfl, rfl⟩ := hfz
            exact ⟨E, Frz.refl hs, hsrc⟩
        obtain ⟨E1, g1, hsrc1⟩ := hfrz
        have htop1 : E.top ≤ E1.top := by rw [hs.top, g1.sim.top, g1.len]; exact Nat.le_refl _
        have hx1 : VR E1 x cx := hx.later (by rw [hs.top]; exact g1.tr.evol) htop1
        obtain ⟨cr, w', E', hr, hres⟩ := append_ok (n0 := C.n0) (ty := o.type) g1.sim (by rw [g1.len]; exact hR.len) ht hu htu hud (by simpa using hk) hsz hx1 hsrc1 happ
        refine value_wp (by rw [run (e' := Builtin.append_ c.argTypes o.type #[cx, cy]) (fun _ => rfl)]; exact value_run hr) (hn E' w' cr ?_)
        exact ⟨hres.sim, hres.val, g1.tr.trans (g1.len ▸ hres.tr), by rw [← g1.len]; exact hres.len, fun he => g1.sub.trans (hres.sub he)⟩
    · simp at h
  · -- copy
    rename_i x y
    obtain ⟨cx, cy, rfl, hx, hy⟩ := two rfl
    simp only [Option.bind_eq_some_iff, Option.map_eq_some_iff, Prod.exists, Prod.mk.injEq] at h
    obtain ⟨t, ht, v', H2, hcp, rfl, rfl, rfl⟩ := h
    obtain ⟨cr, w', E', hr, hres⟩ := copy_ok (n0 := C.n0) (ty := o.type) hs ht hx hy hcp
    exact value_wp (by rw [run (e' := Builtin.copy_ c.argTypes o.type #[cx, cy]) (fun _ => rfl)]; exact value_run hr) (hn E' w' cr hres)
  · -- clear
    rename_i x
    obtain ⟨cx, rfl, hx⟩ := one rfl
    simp only [Option.bind_eq_some_iff, Option.map_eq_some_iff, Prod.exists, Prod.mk.injEq] at h
    obtain ⟨t, ht, v', H2, hcp, rfl, rfl, rfl⟩ := h
    obtain ⟨cr, w', E', hr, hres⟩ := clear_ok (n0 := C.n0) (ty := o.type) hs ht hx hcp
    exact value_wp (by rw [run (e' := Builtin.clear_ c.argTypes o.type #[cx]) (fun _ => rfl)]; exact value_run hr) (hn E' w' cr hres)
  · simp at h

theorem op_ok (hk : OracleSound C.P B C.U.G C.K) (hx : ExtSound C.P B C.U.X) (hG : GlobOk C.U.G E) (hR : SR C B E s a w) {o : Oper} {v : AV} {H' : Heap} {e : Bool} (h : evalOp C s o.op o.type = some (v, H', e))
    {next : Act → World → Prop} {Q : Exit → Act → World → Prop} (hn : ∀ E' w' c, Res B C.n0 E s.H w v H' e E' w' c → next (a.put o.dst c) w') : o.wp C.P a w next Q := by
  have hs := hR.sim
  have hE := hR.eval
  obtain ⟨dst, op, type, pos, after, guard⟩ := o
  simp only at h hn
  have pure_ : ∀ {r : Option AV} {e' : Sem Value}, (execOp a.eval ⟨dst, op, type, pos, after, guard⟩) = (do pure (Next.value (← e'))) → (r.map fun v => (v, s.H, false)) = some (v, H', e) → (∀ u, r = some u → ∃ c, e'.run C.P w = .ok c w ∧ VR E u c) →
      Oper.wp C.P ⟨dst, op, type, pos, after, guard⟩ a w next Q := fun {r e'} he hq hc => by
    obtain ⟨h1, rfl, rfl⟩ := q_inv hq
    obtain ⟨c, h2, h3⟩ := hc _ h1
    exact value_wp (by rw [he]; exact value_run h2) (hn E w c (Res.same hs h3))
  cases op <;> simp only [evalOp, reduceCtorEq] at h
  case move x =>
    obtain ⟨h1, rfl, rfl⟩ := q_inv h
    obtain rfl := Option.some.inj h1
    exact value_wp rfl (hn E w _ (Res.same hs (hE x)))
  case assign x =>
    obtain ⟨h1, rfl, rfl⟩ := q_inv h
    obtain rfl := Option.some.inj h1
    exact value_wp rfl (hn E w _ (Res.same hs (hE x)))
  case pick c x y =>
    have hc := hE c
    split at h
    · rename_i hb
      rw [hb] at hc
      obtain ⟨h1, rfl, rfl⟩ := q_inv h
      obtain rfl := Option.some.inj h1
      exact value_wp (by simp [execOp, hc.bool_inv, asBool]) (hn E w _ (Res.same hs (hE x)))
    · rename_i hb
      rw [hb] at hc
      obtain ⟨h1, rfl, rfl⟩ := q_inv h
      obtain rfl := Option.some.inj h1
      exact value_wp (by simp [execOp, hc.bool_inv, asBool]) (hn E w _ (Res.same hs (hE y)))
    · simp at h
  case alloc t =>
    simp only [Option.map_eq_some_iff, Prod.mk.injEq] at h
    obtain ⟨z, hz, rfl, rfl, rfl⟩ := h
    obtain ⟨c, w', E', hr, hres⟩ := alloc_ok (n0 := C.n0) hs hR.len hz
    exact value_wp (value_run hr) (hn E' w' c hres)
  case box t x =>
    split at h
    · rename_i hp
      obtain ⟨rfl, rfl, rfl⟩ := by simpa using h
      obtain ⟨c, w', E', hr, hres⟩ := box_ok (P := C.P) (n0 := C.n0) (t := t) hs hR.len (hE x) hp
      exact value_wp (value_run hr) (hn E' w' c hres)
    · simp at h
  case build t ps =>
    refine pure_ rfl h (fun u hu => ?_)
    have hp := parts_ok hR ps.toList
    obtain ⟨c, h1, h2⟩ := build_ok (P := C.P) (w := w) hp hu
    refine ⟨c, ?_, h2⟩
    rw [← h1]
    congr 2
    apply Array.ext'
    simp
  case buildSlice t len ps =>
    split at h
    · rename_i el hu
      simp only [Option.bind_eq_some_iff] at h
      obtain ⟨sz, hsz, h⟩ := h
      split at h
      · rename_i hc
        simp only [Option.map_eq_some_iff, Prod.mk.injEq] at h
        obtain ⟨r, hr, rfl, rfl, rfl⟩ := h
        split at hr
        · rename_i hl
          subst hl
          split at hr
          · rename_i hemp
            obtain rfl := Option.some.inj hr
            obtain ⟨c, w', E', h1, h2⟩ := buildSlice0_ok (P := C.P) (n0 := C.n0) hs hR.len hu hsz
            have hps : ps = #[] := by
              apply Array.ext'
              simpa using hemp
            exact value_wp (value_run (by rw [hps]; simpa using h1)) (hn E' w' c (by simpa [AV.refless, reflessL] using h2))
          · simp at hr
        · rename_i hl
          simp only [Option.bind_eq_some_iff] at hr
          obtain ⟨z, hz, hr⟩ := hr
          split at hr
          · rename_i hzl
            have hp := parts_ok hR ps.toList
            obtain ⟨c, w', E', h1, h2⟩ := buildSlice_ok (P := C.P) (n0 := C.n0) hs hR.len hu hsz hz hzl hc.2 (by omega) hc.1 hp hr
            refine value_wp (value_run ?_) (hn E' w' c h2)
            rw [← h1]
            congr 2
            apply Array.ext'
            simp
          · simp at hr
      · simp at h
    · simp at h
  case load t x =>
    cases x with
    | global g =>
      simp only at h
      refine pure_ rfl h (fun u hu => ?_)
      simp only [Option.bind_eq_some_iff] at hu
      obtain ⟨v0, hg, hu⟩ := hu
      obtain ⟨c, h1, h2, _⟩ := load_ok hs (hG g v0 hg) hu
      exact ⟨c, h1, .of_PR h2⟩
    | _ =>
      simp only at h
      refine pure_ rfl h (fun u hu => ?_)
      obtain ⟨c, h1, h2, _⟩ := load_ok hs (hE _) hu
      exact ⟨c, h1, .of_PR h2⟩
  case store t x y =>
    simp only [Option.map_eq_some_iff, Prod.mk.injEq] at h
    obtain ⟨H1, h1, rfl, rfl, rfl⟩ := h
    obtain ⟨w', hr, hres⟩ := store_ok (n0 := C.n0) hs (hE x) (hE y) h1
    exact skip_wp (by simp [execOp, hr]) (hn E w' undef hres)
  case nilCheck x =>
    have hx := hE x
    split at h
    · rename_i p hv
      rw [hv] at hx
      obtain ⟨h1, rfl, rfl⟩ := q_inv h
      obtain rfl := Option.some.inj h1
      obtain ⟨ad, hc, _⟩ := PR.ptr_inv (show PR E (.ptr p) _ from hx)
      exact value_wp (by simp [execOp, hc]) (hn E w _ (Res.same hs (hc ▸ hx)))
    · rename_i u hv
      rw [hv] at hx
      obtain ⟨h1, rfl, rfl⟩ := q_inv h
      obtain rfl := Option.some.inj h1
      obtain ⟨b, q, c1, hc, _⟩ := PR.iptr_inv (show PR E (.iptr u) _ from hx)
      exact value_wp (by simp [execOp, hc]) (hn E w _ (Res.same hs (hc ▸ hx)))
    · rename_i t u hv
      rw [hv] at hx
      obtain ⟨h1, rfl, rfl⟩ := q_inv h
      obtain rfl := Option.some.inj h1
      obtain ⟨cu, hc, _⟩ := PR.iface_inv (show PR E (.iface t u) _ from hx)
      exact value_wp (by simp [execOp, hc]) (hn E w _ (Res.same hs (hc ▸ hx)))
    · rename_i f fa fb hv
      rw [hv] at hx
      obtain ⟨h1, rfl, rfl⟩ := q_inv h
      obtain rfl := Option.some.inj h1
      have h2 := (show PR E (.func (.func f) fa fb) _ from hx).leaf rfl
      generalize hcx : a.eval x = cx at h2 hx
      cases h2 with
      | func k1 k2 k3 k4 => exact value_wp (by simp [execOp, hcx]) (hn E w _ (Res.same hs hx))
    · simp at h
  case binOp op t x y yt =>
    have hx := hE x
    have hy := hE y
    split at h
    · rename_i cx cy hcx hcy
      refine pure_ rfl h (fun u hu => ?_)
      obtain ⟨c, h1, h2⟩ := scalBin_ok (E := E) (P := C.P) hu w
      rw [scalar_ok hx hcx, scalar_ok hy hcy]
      refine ⟨c, ?_, h2⟩
      simp only [Sem.run_bind, scal_pure hcx hcy, Result.andThen_ok]
      exact h1
    · rename_i hcx hcy
      split at h
      · simp at h
      · rename_i hg
        split at h
        · refine pure_ rfl h (fun u hu => ?_)
          simp only [Option.map_eq_some_iff] at hu
          obtain ⟨r, hr, rfl⟩ := hu
          exact ⟨_, (eq_ok hx hy hcx hcy (by simpa using hg) hr).1, VR.bool⟩
        · refine pure_ rfl h (fun u hu => ?_)
          simp only [Option.map_eq_some_iff] at hu
          obtain ⟨r, hr, rfl⟩ := hu
          exact ⟨_, (eq_ok hx hy hcx hcy (by simpa using hg) hr).2, VR.bool⟩
        · simp at h
    · simp at h
  case unOp op t x =>
    refine pure_ rfl h (fun u hu => ?_)
    simp only [Option.bind_eq_some_iff] at hu
    obtain ⟨cx, hcx, hu⟩ := hu
    obtain ⟨c, h1, h2⟩ := liftPure_ok (E := E) (P := C.P) hu w
    exact ⟨c, by rw [scalar_ok (hE x) hcx]; exact h1, h2⟩
  case convert src d x =>
    simp only [Option.map_eq_some_iff, Prod.mk.injEq, Prod.exists] at h
    obtain ⟨v1, H1, h1, rfl, rfl, rfl⟩ := h
    obtain ⟨c, w', E', hr, hres⟩ := convert_ok (n0 := C.n0) hs hR.len (hE x) h1
    exact value_wp (value_run hr) (hn E' w' c hres)
  case sliceToArrayPointer t x =>
    have hx := hE x
    split at h
    · rename_i n el p sz m off len hu hv
      rw [hv] at hx
      split at h
      · rename_i hc
        obtain ⟨h1, h0, hsz⟩ := hc
        obtain ⟨ad, cap, hcx, hid, hcap, h2⟩ := PR.sl_inv (show PR E (.sl p sz m off len) _ from hx)
        have hlt : ¬ len < n := by omega
        split at h
        · rename_i hc2
          obtain ⟨rfl, rfl⟩ := hc2
          refine pure_ rfl h (fun u hu' => ?_)
          obtain rfl := Option.some.inj hu'
          refine ⟨.pointer (some ad), by simp [Instr.arrayAt, run_underlying hu, hcx, hlt], .of_PR (v := .ptr p) ⟨[_], .ptr hid (fun L hL => ?_) .nil, rfl⟩⟩
          rcases h2 L hL with h3 | ⟨h3, _, _, h4⟩
          · exact .inl h3
          · rcases h4 with h4 | h4
            · omega
            · exact .inr ⟨h3, by simpa using h4⟩
        · refine pure_ rfl h (fun u hu' => ?_)
          obtain rfl := Option.some.inj hu'
          refine ⟨.pointer (some ad), by simp [Instr.arrayAt, run_underlying hu, hcx, hlt], .of_PR (v := .sptr p sz m off n) ⟨[_], .sptr hid (fun L hL => ?_) .nil, rfl⟩⟩
          rcases h2 L hL with h3 | ⟨h3, _, _, h4⟩
          · exact .inl h3
          · rcases h4 with h4 | h4
            · omega
            · exact .inr ⟨h3, h4⟩
      · simp at h
    · rename_i n el sz xs hu hv
      rw [hv] at hx
      split at h
      · rename_i hc
        obtain ⟨⟨hn0, h1⟩, hsz⟩ := hc
        refine pure_ rfl h (fun u hu' => ?_)
        obtain rfl := Option.some.inj hu'
        obtain ⟨b, q, sp, c1, cap, hcx, hsp, hr, hf, he, hcap, hm⟩ := PR.isl_inv (show PR E (.isl sz xs) _ from hx)
        obtain rfl : sp = none := by
          rcases hsp with h | h
          · exact h
          · simp [h] at h1; omega
        have hlt : ¬ xs.length < n := by omega
        have hft := hf.take_each he h1
        refine ⟨.pointer (some ⟨b, q, none⟩), by simp [Instr.arrayAt, run_underlying hu, hcx, hlt], .of_PR (v := .iptr _) ⟨[_], .iptr (c1 := c1.take (n * sz)) ?_ ?_ (fun j c hj => ?_) .nil, rfl⟩⟩
        · simp only [AV.refless]
          exact reflessL_sub hr (fun y hy => List.mem_of_mem_take hy)
        · have := FR.arr (e := sz) (vs := []) (cs := []) hft (fun y hy => he y (List.mem_of_mem_take hy)) .nil
          simpa using this
        · refine hm j c ?_
          rw [List.getElem?_take] at hj
          split at hj
          · exact hj
          · simp at hj
      · simp at h
    · simp at h
  case makeInterface t x =>
    split at h
    · simp at h
    · rename_i d hni hu
      split at h
      · rename_i hp
        refine pure_ rfl h (fun u hu' => ?_)
        obtain rfl := Option.some.inj hu'
        obtain ⟨cs, h1, h2⟩ := (hE x).toPR hp
        refine ⟨.iface t (a.eval x), ?_, .of_PR (v := .iface t _) ⟨[_], .iface h1 .nil, ?_⟩⟩
        · cases d <;> first | (exfalso; exact hni _ rfl) | simp [Instr.makeInterface, run_underlying hu]
        · rw [h2]; rfl
      · simp at h
    · simp at h
  case makeFunc fn first captured =>
    split at h
    · rename_i f
      split at h
      · rename_i hall
        refine pure_ rfl h (fun u hu' => ?_)
        obtain rfl := Option.some.inj hu'
        simp only [List.all_append, Bool.and_eq_true] at hall
        have h1 := leaves_ok hR first.toList hall.1
        have h2 := leaves_ok hR captured.toList hall.2
        refine ⟨.func (.func f) (first.map a.eval) (captured.map a.eval), rfl, .of_PR (v := .func _ _ _) ⟨[_], .func (fun x hx => ?_) h1 h2 .nil, ?_⟩⟩
        · rcases List.mem_append.1 hx with hx | hx
          · have := List.all_eq_true.1 hall.1 x hx
            simp at this
            exact this.2
          · have := List.all_eq_true.1 hall.2 x hx
            simp at this
            exact this.2
        · simp only [pack, AV.isAgg, Bool.false_eq_true, if_false, List.headD_cons]
          congr 1
          · apply Array.ext'; simp
          · apply Array.ext'; simp
      · simp at h
    · simp at h
  case makeSlice t l c =>
    split at h
    · rename_i el hu
      simp only [Option.bind_eq_some_iff] at h
      obtain ⟨sz, hsz, by_, hby, nl, hl, nc, hc, z, hz, h⟩ := h
      split at h
      · rename_i hh
        obtain ⟨rfl, rfl, rfl⟩ := by simpa using h
        obtain ⟨cv, w', E', hr, hres⟩ := makeSlice_ok (n0 := C.n0) hs hR.len hu hsz hby (hE l) hl (hE c) hc hz hh.1 hh.2.1 hh.2.2.1 hh.2.2.2.1 hh.2.2.2.2
        exact value_wp (value_run hr) (hn E' w' cv hres)
      · simp at h
    · simp at h
  case slice t x lo hi mx =>
    have hlo : ∀ v, lo.map (s.eval C.A) = some v → ∃ c, lo.map a.eval = some c ∧ VR E v c := fun v hv => by
      simp only [Option.map_eq_some_iff] at hv
      obtain ⟨y, rfl, rfl⟩ := hv
      exact ⟨_, rfl, hE y⟩
    have hlo' : lo.map (s.eval C.A) = none → lo.map a.eval = none := fun hv => by cases lo <;> simp_all
    cases mx with
    | none =>
      simp only at h
      refine pure_ rfl h (fun u hu => ?_)
      exact slice_ok hs (hE x) hlo hlo' (fun v hv => by
        simp only [Option.map_eq_some_iff] at hv
        obtain ⟨y, rfl, rfl⟩ := hv
        exact ⟨_, rfl, hE y⟩) (fun hv => by cases hi <;> simp_all) hu
    | some m =>
      cases hi with
      | none => simp at h
      | some hi =>
        simp only at h
        exact pure_ rfl h (fun u hu => slice3_ok (hE x) hlo hlo' (hE hi) (hE m) hu)
  case fieldAddr t x f => exact pure_ rfl h (fun u hu => fieldAddr_ok (hE x) hu)
  case field t x f => exact pure_ rfl h (fun u hu => field_ok (hE x) hu)
  case indexAddr t x i => exact pure_ rfl h (fun u hu => indexAddr_ok (hE x) (hE i) hu)
  case index t x i => exact pure_ rfl h (fun u hu => index_ok (hE x) (hE i) hu)
  case makeMap t r =>
    cases r with
    | some r => simp at h
    | none =>
      simp only [Option.some.injEq, Prod.mk.injEq] at h
      obtain ⟨rfl, rfl, rfl⟩ := h
      exact value_wp (value_run (e := Instr.makeMap t none) rfl) (hn _ _ _ (makeMap_ok hs hR.len))
  case lookup t x i ok => exact pure_ rfl h (fun u hu => lookup_ok hs (hE x) (hE i) hu)
  case mapUpdate t m k x =>
    simp only [Option.map_eq_some_iff, Prod.mk.injEq] at h
    obtain ⟨H1, h1, rfl, rfl, rfl⟩ := h
    obtain ⟨w', hr, hres⟩ := mapUpdate_ok (n0 := C.n0) hs (hE m) (hE k) (hE x) h1
    exact skip_wp (by simp [execOp, hr]) (hn E w' undef hres)
  case typeAssert x xt as ok => exact pure_ rfl h (fun u hu => typeAssert_ok (hE x) hu)
  case extract t i =>
    have ht := hE t
    split at h
    · rename_i vs hv
      rw [hv] at ht
      refine pure_ rfl h (fun u hu => ?_)
      obtain ⟨cvs, hc, hl, hall⟩ := ht
      have hi : i < vs.length := by
        rcases Nat.lt_or_ge i vs.length with h | h
        · exact h
        · simp [List.getElem?_eq_none h] at hu
      have hci : cvs[i]? = some cvs[i] := List.getElem?_eq_getElem (by omega)
      refine ⟨cvs[i], by simp [Instr.extract, hc, hci], ?_⟩
      rcases hall i u _ hu hci with rfl | h
      · trivial
      · exact .of_PR h
    · simp at h
  case call c =>
    cases hc : c.callee <;> rw [hc] at h <;> simp only at h
    · rename_i f
      simp only [Option.bind_eq_some_iff, Prod.exists] at h
      obtain ⟨g, all, h1, h2⟩ := h
      obtain ⟨first, captured, hf, hl, hv⟩ := callee_ok (hE f) h1 (cargs := c.args.toList.map a.eval) (by simp) (args_ok hR c.args.toList)
      refine enter_ok hk hx hG hR h2 hl hv ?_ hn
      simp only [execOp, resolve, hc, Deferred.ofValue, hf]
      simp [invoke]
      congr 2
      apply Array.ext'
      simp
    · rename_i r m
      simp only [Option.bind_eq_some_iff, Prod.exists] at h
      obtain ⟨g, rv, h1, h2⟩ := h
      obtain ⟨crv, k1, k2⟩ := method_ok (w := w) (hE r) h1 (c.args.toList.map a.eval)
      refine enter_ok hk hx hG hR h2 (cargs := crv :: c.args.toList.map a.eval) (by simp) (fun i v d hv hd => ?_) ?_ hn
      · cases i with
        | zero =>
          simp only [List.getElem?_cons_zero, Option.some.injEq] at hv hd
          subst hv hd
          exact k2
        | succ i => exact args_ok hR c.args.toList i v d (by simpa using hv) (by simpa using hd)
      · rw [← k1]
        have h0 : (#[a.eval r] ++ Array.map a.eval c.args)[0]? = some (a.eval r) := by simp [Array.getElem?_append]
        simp only [execOp, resolve, hc]
        simp [invoke, h0]
        congr 2
        apply Array.ext'
        simp
        rw [List.take_of_length_le (by simp)]
    · rename_i b
      exact builtin_ok hR rfl hc h hn

end
end Go.X
/-
  An abstract evaluator for the translated programs: regions, code, calls. Definitions alone.
-/
namespace Go.X

def wantedAV (A : FAnn) (ops : List Oper) (s : St) (o : Oper) : Option Bool :=
  match o.guard with
  | none => some true
  | some (j, want) => match (ops[j]?).bind (·.dst) with
    | some d => match s.get A d with
      | .bool b => some (b == want)
      | .undf => some false
      | _ => none
    | none => none

/-- Does an operation change memory? -/
def isLoud (P : Program) : Op → Bool
  | .move _ | .assign _ | .pick .. | .build .. | .load .. | .nilCheck _ | .binOp .. | .unOp .. | .makeInterface .. | .makeFunc .. | .slice .. | .fieldAddr .. | .field .. | .indexAddr .. | .index ..
  | .typeAssert .. | .extract .. | .sliceToArrayPointer .. => false
  | .convert _ d _ => match P.underlying d with | some (.slice _) => true | _ => false
  | .call { callee := .builtin b, .. } => match b with | .len | .min | .max => false | _ => true
  | _ => true

/-- Does an operation that changes none look into memory? -/
def isRead : Op → Bool
  | .load .. | .slice .. | .convert .. => true
  | _ => false

/-- One operation of a region. -/
def stepOp (C : Ctx) (ops : List Oper) (s : St) (o : Oper) : Option St :=
  (wantedAV C.A ops s o).bind fun w =>
    if w then (evalOp C s o.op o.type).map fun r =>
      let s' := { s with H := r.2.1, esc := s.esc || r.2.2 }
      match o.dst with
      | some d => s'.set C.A d (if d < C.N then r.1 else .bad)
      | none => s'
    else some (match o.dst with | some d => s.set C.A d .undf | none => s)

def AV.isYld : AV → Bool
  | .yld => true
  | _ => false

/-- One operation, where yield may be called. -/
def stepY (C : Ctx) (ops : List Oper) (s : St) (o : Oper) : Option St :=
  match o.op with
  | .call { callee := .value f, args, .. } => if (s.eval C.A f).isYld && o.guard.isNone then
      (C.Y (args.toList.map (s.eval C.A)) s.H).map fun r =>
        let s' := { s with H := r.1, esc := s.esc || r.2 }
        match o.dst with
        | some d => s'.set C.A d (if d < C.N then .bool true else .bad)
        | none => s'
    else stepOp C ops s o
  | _ => stepOp C ops s o

def runOps (C : Ctx) (ops : List Oper) : List Oper → St → Option St
  | [], s => some s
  | o :: r, s => (stepY C ops s o).bind (runOps C ops r)

/-- Operations that make one block, and do nothing else. -/
def isAllocOp : Op → Bool
  | .alloc _ | .box .. | .buildSlice .. | .makeSlice .. => true
  | _ => false

/-- The newest block leads to none. -/
def lastBare (H : Heap) : Bool := match H.getLast? with
  | some (some b) => b.root.refs.isEmpty
  | _ => false

/-- A region that draws its order: in the order that the notes give; and the memories on the way. -/
def runOrd (C : Ctx) (ops : List Oper) (flo : List Nat) : List Nat → St → Option (St × List (Heap × Bool))
  | [], s => some (s, [])
  | i :: r, s => (ops[i]?).bind fun o => (stepOp C ops s o).bind fun s' => if flo.contains i && !lastBare s'.H then none else
      (runOrd C ops flo r s').map fun x => (x.1, if isLoud C.P o.op then (s'.H, s'.esc) :: x.2 else x.2)

def AV.isBad : AV → Bool
  | .bad => true
  | _ => false

/-- An operation that reads, looked at with another memory of the way. -/
def chkOne (C : Ctx) (ops : List Oper) (s : St) (o : Oper) (H : Heap) : Bool :=
  match wantedAV C.A ops s o with
  | some true => (match evalOp C { s with H } o.op o.type with
    | some r => (match o.dst with | some d => (s.get C.A d).isBad || (decide (d < C.N) && r.1.beq (s.get C.A d)) | none => true)
    | none => false)
  | some false => true
  | none => false

def chkAll (C : Ctx) (ops : List Oper) (s : St) (hs : List (Heap × Bool)) (l : List (Nat × List Nat)) : Bool :=
  l.all fun x => match ops[x.1]? with
    | some o => x.2.all fun p => match hs[p]? with
      | some h => chkOne C ops s o h.1
      | none => true
    | none => true

def runRegion (C : Ctx) (id : Nat) (ops : Array Oper) (draw : Bool) (s : St) : Option St :=
  let s := { s with T := [] }
  if draw then
    match C.A.ord.lookup id with
    | some a => (runOrd C ops.toList a.flo a.order s).bind fun x => if chkAll C ops.toList x.1 ((s.H, s.esc) :: x.2) a.chk then some x.1 else none
    | none => none
  else runOps C ops.toList ops.toList s

/-! What is asked of the notes on a region that draws its order. -/
def precs (o : Oper) : List Nat := o.after.toList.filterMap fun e => if Region.binds .any e then some e.on else none

/-- Who comes before for sure, as a mask. -/
def ancOf (tab : List (Nat × Nat)) : List Nat → Option Nat
  | [] => some 0
  | j :: r => (tab.lookup j).bind fun x => (ancOf tab r).map fun y => 2 ^ j ||| x ||| y

def tmpList (xs : List Operand) : List Nat := xs.filterMap fun | .tmp t => some t | _ => none

def readsOf (ops : List Oper) (o : Oper) : List Nat :=
  tmpList o.op.operands.toList ++ (match o.guard with | some (j, _) => ((ops[j]?).bind (·.dst)).toList | none => [])

def dstsMask (ops : List Oper) : Nat := ops.foldr (fun o m => (match o.dst with | some d => 2 ^ d | none => 0) ||| m) 0

def dstsOk : List Oper → Bool
  | [] => true
  | o :: r => (match o.dst with | some d => !(dstsMask r).testBit d | none => true) && dstsOk r

/-- The notes on who comes before. -/
def ancTab (ops : List Oper) : List Nat → List (Nat × Nat) → Option (List (Nat × Nat))
  | [], tab => some tab
  | i :: r, tab => (ops[i]?).bind fun o => (ancOf tab (precs o)).bind fun x =>
      if (tab.lookup i).isNone then ancTab ops r ((i, x) :: tab) else none

def bef (tab : List (Nat × Nat)) (i j : Nat) : Bool := match tab.lookup j with | some x => x.testBit i | none => false

def loudAt (P : Program) (ops : List Oper) (i : Nat) : Bool := match ops[i]? with | some o => isLoud P o.op | none => false

/-- Whoever writes what an operation reads comes before it for sure, or after it for sure. -/
def availOk (ops : List Oper) (tab : List (Nat × Nat)) : Bool :=
  (List.range ops.length).all fun j => match (ops[j]?).bind (·.dst) with
    | some t => (List.range ops.length).all fun i => match ops[i]? with
      | some o => !(readsOf ops o).contains t || bef tab j i || (bef tab i j && !isRead o.op)
      | none => true
    | none => true

/-- x, then y: for sure; or y only makes a block, and who reads of it comes behind x. -/
def pairOk (ops : List Oper) (tab : List (Nat × Nat)) (flo : List Nat) (x y : Nat) : Bool :=
  bef tab x y || (flo.contains y && match ops[y]? with
    | some o => isAllocOp o.op && o.guard.isNone && (match o.dst with
      | some t => (List.range ops.length).all fun d => match ops[d]? with
        | some o' => !(readsOf ops o').contains t || bef tab x d || bef tab d y
        | none => true
      | none => false)
    | none => false)

def pairsOk (ops : List Oper) (tab : List (Nat × Nat)) (flo : List Nat) : List Nat → Bool
  | [] => true
  | x :: r => r.all (pairOk ops tab flo x) && pairsOk ops tab flo r

def possible (tab : List (Nat × Nat)) (louds : List Nat) (i p : Nat) : Bool :=
  (louds.take p).all (fun x => !bef tab i x) && match louds.drop p with
    | x :: _ => !bef tab x i
    | [] => true

def readsOk (P : Program) (ops : List Oper) (tab : List (Nat × Nat)) (louds : List Nat) (chk : List (Nat × List Nat)) : List Nat → Nat → Bool
  | [], _ => true
  | i :: r, k => (match ops[i]? with
    | some o => (isLoud P o.op || !isRead o.op || (List.range (louds.length + 1)).all fun p => p == k || ((chk.lookup i).getD []).contains p || !possible tab louds i p) &&
        readsOk P ops tab louds chk r (if isLoud P o.op then k + 1 else k)
    | none => false)

def regionOk (P : Program) (ops : List Oper) (a : RAnn) : Bool :=
  dstsOk ops && (List.range ops.length).all (fun i => a.order.contains i) &&
  match ancTab ops a.order [] with
  | some tab => let louds := a.order.filter (loudAt P ops); availOk ops tab && pairsOk ops tab a.flo louds && readsOk P ops tab louds a.chk a.order 0
  | none => false

def codeOk (P : Program) (A : FAnn) : Code → Bool
  | .region id ops true => match A.ord.lookup id with
    | some a => regionOk P ops.toList a
    | none => true
  | .seq a b | .cond _ a b | .rangeFunc _ _ a b => codeOk P A a && codeOk P A b
  | .block _ c | .loop c => codeOk P A c
  | _ => true

def funcOk (P : Program) (A : FAnn) (f : FuncId) : Bool := match (P.funcs[f]?).bind (·.body) with | some c => codeOk P A c | none => true

inductive Ex where
  | normal
  | exit (id : Nat)
  | ret
  deriving DecidableEq, Inhabited

/-! Sweeping: what no root leads to is given up. -/
def reach (H : Heap) (n0 : Nat) : Nat → List Nat → List Nat → Option (List Nat)
  | _, [], seen => some seen
  | 0, _ :: _, _ => none
  | k + 1, i :: todo, seen =>
    if i < n0 then reach H n0 k todo seen
    else if seen.contains i then reach H n0 k todo seen
    else match H.blk i with
      | some b => reach H n0 k (if b.flat then todo else b.root.refs ++ todo) (i :: seen)
      | none => reach H n0 k todo (i :: seen)

/-- Blocks from number i on: those of the list stay, the last ones that do not are cut off. -/
def prune (keep : List Nat) : Nat → Heap → Heap
  | _, [] => []
  | i, b :: r => match prune keep (i + 1) r with
    | [] => if keep.contains i then [b] else []
    | r' => (if keep.contains i then b else none) :: r'

def oldRefs (H : Heap) (n0 : Nat) : List Nat :=
  (H.take n0).flatMap fun b => match b with | some b => if b.flat then [] else b.root.refs | none => []

/-- Blocks from n0 on that the roots do not lead to are given up. -/
def sweep (H : Heap) (n0 : Nat) (roots : List Nat) (esc : Bool) : Option Heap :=
  if H.length = n0 then some H else
  (reach H n0 1000 (roots ++ (if esc then oldRefs H n0 else [])) []).map fun keep => H.take n0 ++ prune keep n0 (H.drop n0)

def maskL (m : Nat) (l : List (Nat × AV)) : List (Nat × AV) := l.map fun x => if m.testBit x.1 then x else (x.1, .bad)

def rootsL (l : List (Nat × AV)) : List Nat := l.flatMap fun x => x.2.refs

/-- The head of a loop: what is not kept is forgotten, and its blocks with it. -/
def headSt (C : Ctx) (m : Nat) (s : St) : Option St :=
  let L := maskL m s.L
  (sweep s.H C.n0 (rootsL L) s.esc).map fun H => { s with L, T := [], H }

/-- A loop, as far as it goes round no more than k times. -/
def loopN (hd : St → Option St) (body : St → Option (Ex × St)) : Nat → St → Option (Ex × St)
  | 0, _ => none
  | k + 1, s => (hd s).bind fun s => (body s).bind fun x => match x.1 with
      | .normal => loopN hd body k x.2
      | e => some (e, x.2)

def unY : AV → AV
  | .yld => .bad
  | v => v

/-- What a round begins with. -/
def roundSt (C : Ctx) (ps : List Nat) (s : St) (args : List AV) (H : Heap) : St :=
  (ps.zip args).foldl (fun st q => st.set C.A q.1 (if q.1 < C.N then unY q.2 else .bad)) ⟨s.L.map fun x => (x.1, unY x.2), [], H, false⟩

def roundC (C : Ctx) (n0 : Nat) : Ctx := { C with n0, Y := noY, Rg := noR }

/-- A round, that goes to its end. -/
def roundY (C : Ctx) (ps : List Nat) (s : St) (ea eb : Ctx → St → Option (Ex × St)) : Yld := fun args H =>
  if args.length = ps.length then
    (ea (roundC C H.length) (roundSt C ps s args H)).bind fun x => match x.1 with
      | .normal => (eb (roundC C H.length) x.2).bind fun y => match y.1 with
        | .normal => (sweep y.2.H H.length [] y.2.esc).map fun H' => (H', y.2.esc)
        | _ => none
      | _ => none
  else none

/-- An iterator, of its own text. -/
def iterAV (C : Ctx) (Y : Yld) (h : FuncId) (caps : List AV) (H : Heap) : Option (AV × Heap × Bool) :=
  match C.P.funcs[h]? with
  | some fn => match fn.body with
    | some _ => if fn.name ≠ "runtime.NumGoroutine" then C.Rg Y h (.yld :: caps) H else none
    | none => none
  | none => none

/-- Code, as far as no loop goes round more than 'fuel' times. 'cur': the block that we are right in. -/
def evalC : Ctx → Nat → Nat → Code → St → Option (Ex × St)
  | _, _, _, .skip, s => some (.normal, s)
  | C, _, _, .region id ops draw, s => (runRegion C id ops draw s).map fun s => (.normal, { s with T := [] })
  | C, fuel, cur, .seq a b, s => (evalC C fuel cur a s).bind fun x => match x.1 with
      | .normal => evalC C fuel cur b x.2
      | e => some (e, x.2)
  | C, fuel, cur, .cond c a b, s => match s.eval C.A c with
      | .bool true => evalC C fuel cur a s
      | .bool false => evalC C fuel cur b s
      | _ => none
  | C, fuel, _, .block id c, s => (evalC C fuel id c s).map fun x => match x.1 with
      | .exit i => if i = id then (.normal, x.2) else (.exit i, x.2)
      | e => (e, x.2)
  | C, fuel, cur, .loop c, s => loopN (headSt C ((C.A.keep.lookup cur).getD 0)) (fun s => evalC C fuel 0 c s) fuel s
  | _, _, _, .exit i, s => some (.exit i, s)
  | _, _, _, .ret, s => some (.ret, s)
  | C, fuel, _, .rangeFunc g ps a b, s => match s.eval C.A g with
      | .func (.func h) [] caps =>
        (iterAV C (roundY C ps.toList s (fun C' s' => evalC C' fuel 0 a s') (fun C' s' => evalC C' fuel 0 b s')) h caps s.H).map fun r =>
          (.normal, { s with T := [], H := r.2.1, esc := s.esc || r.2.2 })
      | _ => none
  | _, _, _, _, _ => none

def initL (keys : List Nat) (args : List AV) : List (Nat × AV) := keys.map fun k => (k, (args[k]?).getD .bad)

def resultAV (C : Ctx) (s : St) : ResultVar → Option AV
  | .tmp t => some (s.get C.A t)
  | .cell a t => loadAV C.P s.H t (s.get C.A a)

def pickAV : List AV → AV
  | [v] => v
  | vs => .tuple (vs.map fun v => if v.plain then v else .bad)

/-- A function's text, once: with an oracle for what it calls. -/
def evalG (P : Program) (U : Out) (ann : FuncId → FAnn) (fuel : Nat) (K : Oracle) (Y : Yld) (Rg : Yld → Oracle) : Oracle := fun f args H =>
  (P.funcs[f]?).bind fun fn => fn.body.bind fun c =>
    let C : Ctx := ⟨P, K, H.length, max fn.ntmps args.length, ann f, U, Y, Rg⟩
    (evalC C fuel 0 c ⟨initL C.A.keys args, [], H, false⟩).bind fun x =>
      match x.1 with
      | .exit _ => none
      | _ => (fn.results.toList.mapM (resultAV C x.2)).bind fun vs =>
        let v := pickAV vs
        (sweep x.2.H H.length v.refs x.2.esc).map fun H' => (v, H', x.2.esc)

def evalI (P : Program) (U : Out) (ann : FuncId → FAnn) (fuel : Nat) (K : Oracle) : Yld → Oracle := fun Y => evalG P U ann fuel K Y noR

def evalF (P : Program) (U : Out) (ann : FuncId → FAnn) (fuel : Nat) (K : Oracle) : Oracle := evalG P U ann fuel K noY (evalI P U ann fuel K)

/-- Functions that call each other no deeper than n. -/
def evalN (P : Program) (U : Out) (ann : FuncId → FAnn) (fuel : Nat) (K : Oracle) : Nat → Oracle
  | 0 => K
  | n + 1 => fun f args H => match K f args H with
    | some r => some r
    | none => evalF P U ann fuel (evalN P U ann fuel K n) f args H

end Go.X
