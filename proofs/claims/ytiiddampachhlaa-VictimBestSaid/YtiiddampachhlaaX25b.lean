/-
  Regions: what the evaluator tells is what the model does.
-/
import Derived.Test.YtiiddampachhlaaX25a
namespace Go.X
open Go.RowKit (Below)

section
variable {C : Ctx} {B : Nat} {E0 E : Env} {H0 : Heap} {w0 : World} {s0 sf : St} {a : Act} {w : World} {Q : Exit → Act → World → Prop} {ops : Array Oper}

theorem first_at {α : Type} (p : α → Prop) : ∀ (l : List α), (∃ x ∈ l, p x) → ∃ pre x post, l = pre ++ x :: post ∧ p x ∧ ∀ y ∈ pre, ¬ p y
  | [], h => by obtain ⟨x, hx, _⟩ := h; simp at hx
  | x :: l, h => by
    by_cases hp : p x
    · exact ⟨[], x, l, rfl, hp, by simp⟩
    · have : ∃ y ∈ l, p y := by
        obtain ⟨y, hy, hpy⟩ := h
        rcases List.mem_cons.1 hy with rfl | hy
        · exact absurd hpy hp
        · exact ⟨y, hy, hpy⟩
      obtain ⟨pre, y, post, rfl, h1, h2⟩ := first_at p l this
      refine ⟨x :: pre, y, post, rfl, h1, fun z hz => ?_⟩
      rcases List.mem_cons.1 hz with rfl | hz
      · exact hp
      · exact h2 z hz

theorem all_listed {an : RAnn} (F : Facts C ops an) {listed : Array Bool} (hsize : listed.size = ops.size) (hr : Region.ready .any ops listed = []) : ∀ i, i < ops.size → listed.getD i true = true := by
  intro i hi
  cases hli : listed.getD i true
  · exfalso
    obtain ⟨pre, j, post, hord, hj, hpre⟩ := first_at (fun x => listed.getD x true = false) an.order ⟨i, F.all i hi, hli⟩
    obtain ⟨⟨o, h1, h2⟩, _⟩ := F.place pre j post hord
    have : j ∈ Region.ready .any ops listed := by
      refine mem_ready.2 ⟨hj, o, by simpa using h1, fun e he hb => ?_⟩
      have hm : e.on ∈ precs o := List.mem_filterMap.2 ⟨e, by simpa using he, by rw [if_pos hb]⟩
      have hmp := h2 _ hm
      obtain ⟨q1, q2, hq⟩ := List.append_of_mem hmp
      obtain ⟨⟨o2, g1, _⟩, _⟩ := F.place q1 e.on (q2 ++ j :: post) (by rw [hord, hq]; simp)
      have hlt : e.on < listed.size := by
        rw [hsize]
        have := (List.getElem?_eq_some_iff.1 g1).1
        simpa using this
      exact (either hlt).resolve_left (hpre _ hmp)
    rw [hr] at this
    simp at this
  · rfl

theorem Inv.done {an : RAnn} (hT : s0.T = []) {hs : List (Heap × Bool)} (hrun : runOrd C ops.toList an.flo an.order s0 = some (sf, hs)) {listed : Array Bool}
    (hI : Inv C B E0 H0 w0 ops an s0 sf ((s0.H, s0.esc) :: hs) listed E a w) (hall : ∀ i, i < ops.size → listed.getD i true = true) : IV C B E0 H0 w0 E sf a w := by
  obtain ⟨hsize, hdown, L1, L2, h, pl, ⟨hL, hL1, hh, hIV, _, _, _⟩, hhead⟩ := hI
  have hnil : L2 = [] := by
    cases L2 with
    | nil => rfl
    | cons x L2 =>
      exfalso
      obtain ⟨o, _, hlt⟩ := Facts.loudLt (C := C) (ops := ops) (an := an) (x := x) (by rw [hL]; simp)
      have := hall x hlt
      rw [hhead x L2 rfl] at this
      simp at this
  subst hnil
  obtain ⟨k1, k2⟩ := runOrd_len an.order s0 sf hs hrun
  have hhe : h = (sf.H, sf.esc) := by
    rw [hL, List.append_nil] at k1
    rw [k1, hh] at k2
    exact Option.some.inj k2
  subst hhe
  exact hIV.to (dst := none) (c := undef) (v := .bad) (e := false) (Res.same hIV.sr.sim trivial) rfl (by simp [stAt]) (fun t _ => by
    right
    rw [stAt_get _ _ hT, dead_false, pend_false]
    · simp
    · rintro ⟨y, o, hy, _⟩
      simp at hy
    · rintro ⟨i, o, h1, h2, _, _⟩
      rw [hall i h1] at h2
      simp at h2) (fun d hd => by simp at hd)

def open' (ops : Array Oper) (listed : Array Bool) : Nat := ((List.range ops.size).filter fun i => !listed.getD i true).length

theorem open_set {listed : Array Bool} {i : Nat} (hsize : listed.size = ops.size) (hi : i < ops.size) (hun : listed.getD i true = false) {k : Nat} (h : open' ops listed ≤ k + 1) : open' ops (listed.setIfInBounds i true) ≤ k := by
  unfold open' at *
  have key : ∀ (l : List Nat), l.Nodup → i ∈ l → ((l.filter fun j => !(listed.setIfInBounds i true).getD j true).length + 1 = (l.filter fun j => !listed.getD j true).length) := by
    have hne : ∀ j, j ≠ i → (listed.setIfInBounds i true).getD j true = listed.getD j true := fun j hj => getD_set_ne true (fun e => hj e.symm)
    have hself : (listed.setIfInBounds i true).getD i true = true := by simp [hsize, hi]
    have hno : ∀ (l : List Nat), i ∉ l → (l.filter fun j => !(listed.setIfInBounds i true).getD j true) = l.filter fun j => !listed.getD j true := fun l hl => List.filter_congr (fun j hj => by
      rw [hne j (fun e => hl (e ▸ hj))])
    intro l
    induction l with
    | nil => intro _ h; simp at h
    | cons x l ih =>
      intro hnd hm
      obtain ⟨hx, hnd⟩ := List.nodup_cons.1 hnd
      by_cases hxi : x = i
      · subst hxi
        rw [List.filter_cons, List.filter_cons, hself, hun, hno l hx]
        rfl
      · have hm' : i ∈ l := (List.mem_cons.1 hm).resolve_left (fun e => hxi e.symm)
        have := ih hnd hm'
        simp only [List.filter_cons, hne x hxi]
        split
        · simp only [List.length_cons]; omega
        · exact this
  have := key (List.range ops.size) List.nodup_range (List.mem_range.2 hi)
  omega

theorem ord_any (hK : Snd C B E0) {an : RAnn} (F : Facts C ops an) (hT : s0.T = []) {hs : List (Heap × Bool)} (hrun : runOrd C ops.toList an.flo an.order s0 = some (sf, hs)) (hchk : chkAll C ops.toList sf ((s0.H, s0.esc) :: hs) an.chk = true)
    (hn : ∀ E' a' w', IV C B E0 H0 w0 E' sf a' w' → Q .normal a' w') : ∀ (fuel : Nat) (listed : Array Bool) (E : Env) (a : Act) (w : World), open' ops listed ≤ fuel → Inv C B E0 H0 w0 ops an s0 sf ((s0.H, s0.esc) :: hs) listed E a w →
      wpAny C.P .any ops Q fuel listed a w
  | 0, listed, E, a, w, hf, hI => by
    have hall : ∀ i, i < ops.size → listed.getD i true = true := fun i hi => by
      cases hli : listed.getD i true
      · exfalso
        unfold open' at hf
        have : i ∈ (List.range ops.size).filter fun i => !listed.getD i true := List.mem_filter.2 ⟨List.mem_range.2 hi, by rw [hli]; rfl⟩
        have hz : ((List.range ops.size).filter fun i => !listed.getD i true) = [] := List.eq_nil_of_length_eq_zero (by omega)
        rw [hz] at this
        simp at this
      · rfl
    refine ⟨List.eq_nil_iff_forall_not_mem.2 (fun i hi => ?_), hn E a w (hI.done hT hrun hall)⟩
    obtain ⟨h1, o, h2, _⟩ := mem_ready.1 hi
    rw [hall i (Array.getElem?_eq_some_iff.1 h2).1] at h1
    simp at h1
  | fuel + 1, listed, E, a, w, hf, hI => by
    refine ⟨fun hr => hn E a w (hI.done hT hrun (all_listed F hI.size hr)), fun i hi => ?_⟩
    obtain ⟨h1, o, h2, _⟩ := mem_ready.1 hi
    exact op_step hK F hT hrun hchk hI hi (fun E' a' w' hI' => ord_any hK F hT hrun hchk hn fuel _ E' a' w' (open_set hI.size (Array.getElem?_eq_some_iff.1 h2).1 h1 hf) hI')

/-- The draw itself. -/
theorem IV.drew {s : St} (h : IV C B E0 H0 w0 E s a w) : IV C B E0 H0 w0 E s a { w with drawn := w.drawn + 1 } := by
  have hbel : Below B w { w with drawn := w.drawn + 1 } := (Below.refl B w).drew
  have hcell : ∀ p, World.cell? { w with drawn := w.drawn + 1 } p = w.cell? p := fun p => rfl
  have hfrz : ∀ p, World.frozen? { w with drawn := w.drawn + 1 } p = w.frozen? p := fun p => rfl
  have hs := h.sr.sim
  refine ⟨⟨⟨hs.top, fun i bk hb => ?_, hs.dead, hs.apart, hs.imm, hs.immApart, hs.flat, hs.old⟩, h.sr.vals, h.sr.size, h.sr.defers, h.sr.len⟩, h.tr.trans ⟨hbel, Evol.refl _ _, fun _ _ _ _ => ⟨rfl, rfl⟩, fun _ _ _ h => h, fun _ _ _ _ h => .inl h⟩, h.sub⟩
  obtain ⟨L, h1, h2, h3⟩ := hs.live i bk hb
  exact ⟨L, h1, ⟨h2.cs, h2.fits, h2.room⟩, h3⟩

/-- A region. -/
theorem region_ok (hK : Snd C B E0) (hm : C.P.follows .mixedOrders = true) {id : Nat} {draw : Bool} (hok : codeOk C.P C.A (.region id ops draw) = true) {s s' : St} (hI : IV C B E0 H0 w0 E s a w)
    (h : runRegion C id ops draw s = some s') (hn : ∀ E' a' w', IV C B E0 H0 w0 E' s' a' w' → Q .normal a' w') : (Code.region id ops draw).wp C.P Q a w := by
  have hI0 := hI.forget
  unfold runRegion at h
  cases draw with
  | false =>
    simp only [Bool.false_eq_true, if_false] at h
    refine wp_region ?_
    rw [List.range_eq_range']
    have := runOps_wp (Q := Q) hK (ops := ops) ops.toList 0 _ E a w (fun j => by simp) hI0 h hn
    simpa using this
  | true =>
    simp only [if_true] at h
    split at h
    · rename_i an han
      simp only [Option.bind_eq_some_iff, Prod.exists] at h
      obtain ⟨sf, hs, hrun, h⟩ := h
      split at h
      · rename_i hchk
        obtain rfl := Option.some.inj h
        simp only [codeOk, han] at hok
        have F := facts hok
        have hI1 := hI0.drew
        have hrep : ∀ i, i < ops.size → (Array.replicate ops.size false).getD i true = false := fun i hi => by simp [hi]
        refine wp_region_any hm (ord_any hK F rfl hrun hchk hn ops.size _ E a _ ?_ ⟨by simp, fun i o hi => ?_, [], _, ({ s with T := [] }.H, { s with T := [] }.esc), fun _ => none, ⟨rfl, by simp, rfl, ?_, fun y hy hyl => ?_, fun y y' L L' _ hy => by simp at hy, fun y L hy => by simp at hy⟩, fun x r hx => ?_⟩)
        · unfold open'
          have := List.length_filter_le (fun i => !(Array.replicate ops.size false).getD i true) (List.range ops.size)
          simpa using this
        · simp at hi
          by_cases h : i < ops.size <;> simp [h] at hi
        · refine hI1.to (dst := none) (c := undef) (v := .bad) (e := false) (Res.same hI1.sr.sim trivial) rfl (by simp [stAt]) (fun t _ => ?_) (fun d hd => by simp at hd)
          rw [stAt_get _ _ rfl, pend_false]
          · right
            simp only [Bool.false_eq_true, if_false]
            cases hd : dead ops (Array.replicate ops.size false) t
            · simp only [Bool.false_eq_true, if_false]
              refine runOrd_get an.order _ sf hs hrun t (fun i _ o ho hdst => ?_)
              have hlt : i < ops.size := by
                have := (List.getElem?_eq_some_iff.1 ho).1
                simpa using this
              have : dead ops (Array.replicate ops.size false) t = true := dead_true.2 ⟨i, o, hlt, hrep i hlt, ho, hdst⟩
              rw [hd] at this; simp at this
            · simp
          · rintro ⟨y, o, _, hyl, hoy, _⟩
            have hlt : y < ops.size := by
              have := (List.getElem?_eq_some_iff.1 hoy).1
              simpa using this
            exact not_both (hrep y hlt) hyl
        · obtain ⟨o, _, hlt⟩ := Facts.loudLt hy
          exact absurd hyl (not_both (hrep y hlt))
        · obtain ⟨o, _, hlt⟩ := Facts.loudLt (C := C) (ops := ops) (an := an) (x := x) (by rw [hx]; simp)
          exact hrep x hlt
      · simp at h
    · simp at h

end
end Go.X
