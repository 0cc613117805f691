/-
  Regions that draw their order: one operation.
-/
import Derived.Test.YtiiddampachhlaaX24
import Derived.Orders
namespace Go.X
open Go.RowKit (Below)

section
variable {C : Ctx} {B : Nat} {E0 E E' : Env} {H0 : Heap} {w0 : World} {s s0 sf : St} {a : Act} {w w' : World} {Q : Exit → Act → World → Prop} {ops : Array Oper}

theorem IV.to {v : AV} {c : Value} {H' : Heap} {e : Bool} (h : IV C B E0 H0 w0 E s a w) (hr : Res B C.n0 E s.H w v H' e E' w' c) {dst : Option Nat} {s2 : St} (hH : s2.H = H') (he : s2.esc = (s.esc || e))
    (hget : ∀ t, dst ≠ some t → s2.get C.A t = .bad ∨ s2.get C.A t = s.get C.A t) (hd : ∀ d, dst = some d → s2.get C.A d = .bad ∨ (s2.get C.A d = v ∧ (d < C.N ∨ c = undef))) : IV C B E0 H0 w0 E' s2 (a.put dst c) w' := by
  have h1 := h.sr.later hr
  refine ⟨⟨by rw [hH]; exact hr.sim, fun t => ?_, ?_, ?_, by rw [hH]; exact Nat.le_trans h.sr.len hr.len⟩, h.tr.trans (hr.tr.mono h.sr.len), fun hesc => ?_⟩
  · by_cases ht : dst = some t
    · subst ht
      rcases hd t rfl with h2 | ⟨h2, h3⟩
      · rw [h2]; trivial
      · rw [h2]
        have : (a.put (some t) c).tmps.getD t undef = c := by
          have := h.sr.size
          simp only [Act.put]
          rcases h3 with h3 | rfl
          · simp [show t < a.tmps.size by omega]
          · by_cases hlt : t < a.tmps.size
            · simp [hlt]
            · simp [hlt]
        rw [this]
        exact hr.val
    · have hput : (a.put dst c).tmps.getD t undef = a.tmps.getD t undef := by
        cases dst with
        | none => rfl
        | some d =>
          have hdt : d ≠ t := fun e => ht (by rw [e])
          simp [Act.put, Array.getElem?_setIfInBounds_ne hdt]
      rw [hput]
      rcases hget t ht with h2 | h2
      · rw [h2]; trivial
      · rw [h2]; exact h1.vals t
  · cases dst <;> simp [Act.put, h.sr.size]
  · cases dst <;> exact h.sr.defers
  · rw [he, Bool.or_eq_false_iff] at hesc
    rw [hH]
    exact (h.sub hesc.1).trans (hr.sub hesc.2)

theorem put_get {t : Nat} {dst : Option Nat} {c : Value} (h : dst ≠ some t) : (a.put dst c).tmps.getD t undef = a.tmps.getD t undef := by
  cases dst with
  | none => rfl
  | some d =>
    have hdt : d ≠ t := fun e => h (by rw [e])
    simp [Act.put, Array.getElem?_setIfInBounds_ne hdt]

/-- A block that was made early is taken up. -/
theorem Core.take {an : RAnn} (F : Facts C ops an) (hT : s0.T = []) {hs : List (Heap × Bool)} (hrun : runOrd C ops.toList an.flo an.order s0 = some (sf, hs)) {listed : Array Bool} {L1 r : List Nat} {y : Nat} {h : Heap × Bool} {pl : Nat → Option Loc}
    (K : Core C B E0 H0 w0 ops an s0 sf ((s0.H, s0.esc) :: hs) listed L1 (y :: r) h pl E a w) (hy : listed.getD y false = true) :
    ∃ h' E', Core C B E0 H0 w0 ops an s0 sf ((s0.H, s0.esc) :: hs) listed (L1 ++ [y]) r h' (fun z => if z = y then none else pl z) E' a w := by
  obtain ⟨hL, hL1, hh, hIV, hpds, hap, hmem⟩ := K
  obtain ⟨o, d, mk, bk, L, hc, hpl, hP⟩ := hpds y List.mem_cons_self hy
  obtain ⟨hn1, hn2⟩ := F.loudOnce hL
  obtain ⟨pre, post, hord, f1, f2, f3⟩ := filter_at hL
  obtain ⟨o2, si, hspre, si', hspost, g1, g2, g3, g3', g4, hhs⟩ := runOrd_split pre y post s0 sf hs (hord ▸ hrun)
  obtain rfl : o = o2 := by rw [hc.op] at g1; exact Option.some.inj g1
  obtain ⟨glen, glast⟩ := runOrd_len pre s0 si hspre g2
  have hlen : L1.length = hspre.length := by rw [glen, f1]
  have hhe : h = (si.H, si.esc) := by
    have : ((s0.H, s0.esc) :: hs)[hspre.length]? = some (si.H, si.esc) := by
      rw [hhs, ← List.cons_append, List.getElem?_append_left (by simp)]
      exact glast
    rw [← hlen, hh] at this
    exact Option.some.inj this
  subst hhe
  have hloud : isLoud C.P o.op = true := by
    unfold loudAt at f3
    rw [hc.op] at f3
    exact f3
  have hnext : ((s0.H, s0.esc) :: hs)[(L1 ++ [y]).length]? = some (si'.H, si'.esc) := by
    rw [hhs, hloud]
    simp [hlen]
  have hev := hc.run pre post si hspre hord g2
  obtain ⟨b, hb, hres⟩ := stepOp_res g3
  have hbt : b = true := by
    unfold wantedAV at hb
    rw [hc.guard] at hb
    exact (Option.some.inj hb).symm
  subst hbt
  have hsi' : si' = si.res C o.dst (mk si.H.length) (si.H ++ [some bk]) false := by
    rcases hres with ⟨_, v, H', e, he, h1⟩ | ⟨hf, _⟩
    · rw [hev] at he
      simp only [Option.some.injEq, Prod.mk.injEq] at he
      obtain ⟨rfl, rfl, rfl⟩ := he
      exact h1
    · simp at hf
  have hH' : si'.H = si.H ++ [some bk] := by rw [hsi', St.res_H]
  have he' : si'.esc = si.esc := by rw [hsi', St.res_esc]; simp
  have hs : Sim B E si.H w := hIV.sr.sim
  have hsim : Sim B (E.new L) (si.H ++ [some bk]) w := by
    obtain ⟨⟨cs, k1, k2, k3⟩, k4, k5⟩ := hP.blk
    exact hs.adopt k1 k2 k4 (fun _ => hc.bare) hP.low k3 k5 (fun b o hb => ⟨(hP.out b o hb).2.2.1, (hP.out b o hb).2.2.2⟩)
  have hevol : Evol E.top E (E.new L) := Env.new_evol L
  have htop : (E.new L).top = E.top + 1 := rfl
  have hloc : ∀ i, (E.new L).loc i = if i = E.top then some L else E.loc i := fun i => rfl
  have hpend : ∀ t, t ≠ d → pendB ops listed r t = pendB ops listed (y :: r) t := fun t ht => by
    unfold pendB
    rw [List.any_cons, hc.op]
    have : (Option.bind (some o) (fun x => x.dst) == some t) = false := by
      simp only [Option.bind_some, hc.dst, beq_eq_false_iff_ne, ne_eq, Option.some.injEq]
      exact fun e => ht e.symm
    rw [this]
    simp
  refine ⟨(si'.H, si'.esc), E.new L, by rw [hL]; simp, fun x hx => ?_, hnext, ⟨⟨?_, fun t => ?_, hIV.sr.size, hIV.sr.defers, ?_⟩, ?_, fun hesc => ?_⟩, fun z hz hzl => ?_, fun z z' Lz Lz' hzz hz hz' => ?_, fun z Lz hz => ?_⟩
  · rcases List.mem_append.1 hx with hx | hx
    · exact hL1 x hx
    · rw [List.mem_singleton.1 hx]; exact hy
  · show Sim B (E.new L) si'.H w
    rw [hH']; exact hsim
  · rw [stAt_get _ _ hT]
    have hold := hIV.sr.vals t
    rw [stAt_get _ _ hT] at hold
    by_cases htd : t = d
    · subst htd
      have h1 : pendB ops listed r t = false := pend_false (by
        rintro ⟨z, oz, hz, _, hoz, hdz⟩
        rw [F.uniq _ _ _ _ _ hoz hc.op hdz hc.dst] at hz
        exact hn2 hz)
      have h2 : dead ops listed t = false := dead_false (by
        rintro ⟨z, oz, _, hz, hoz, hdz⟩
        rw [F.uniq _ _ _ _ _ hoz hc.op hdz hc.dst] at hz
        exact not_both hz hy)
      rw [h1, h2]
      simp only [Bool.false_eq_true, if_false]
      have hf : sf.get C.A t = si'.get C.A t := runOrd_get post si' sf hspost g4 t (fun m hm om hom hmd => (F.once hord).2 (by rw [F.uniq _ _ _ _ _ hc.op hom hc.dst hmd]; exact hm))
      rw [hf, hsi']
      unfold St.res
      rw [hc.dst]
      simp only
      by_cases hdN : t < C.N
      · rw [if_pos hdN]
        rcases set_get_self (A := C.A) (s := { si with H := si.H ++ [some bk], esc := si.esc || false }) (d := t) (v := mk si.H.length) with h3 | h3
        · rw [h3]
          have hst : E.top = si.H.length := hs.top
          rw [← hst]
          exact hP.val hdN _ _ (by rw [hloc, if_pos rfl]) (by rw [htop]; omega)
        · rw [h3]; trivial
      · rw [if_neg hdN]
        rcases set_get_self (A := C.A) (s := { si with H := si.H ++ [some bk], esc := si.esc || false }) (d := t) (v := AV.bad) with h3 | h3 <;> (rw [h3]; trivial)
    · rw [hpend t htd]
      exact hold.later hevol (by omega)
  · show C.n0 ≤ si'.H.length
    rw [hH', List.length_append]
    have : C.n0 ≤ si.H.length := hIV.sr.len
    omega
  · refine ⟨hIV.tr.below, hIV.tr.evol.trans (hevol.mono (by rw [hs.top]; exact hIV.sr.len)), hIV.tr.frame, fun b o hb hin => ?_, fun b o c hb hm => hIV.tr.imm b o c hb hm⟩
    obtain ⟨i, Li, hi, hh⟩ := hin
    rw [hloc] at hi
    split at hi
    · obtain rfl := Option.some.inj hi
      have := (hP.out b o hh).1
      omega
    · exact hIV.tr.ext b o hb ⟨i, Li, hi, hh⟩
  · have h1 : si.esc = false := by rw [← he']; exact hesc
    show Sub C.n0 H0 si'.H
    rw [hH']
    exact (hIV.sub h1).trans (Sub.append hIV.sr.len)
  · have hzy : z ≠ y := fun e => hn2 (by rw [← e]; exact hz)
    obtain ⟨oz, dz, mkz, bkz, Lz, hcz, hplz, hPz⟩ := hpds z (List.mem_cons_of_mem _ hz) hzl
    refine ⟨oz, dz, mkz, bkz, Lz, hcz, by rw [if_neg hzy]; exact hplz, hPz.blk.later (k := 0) (hevol.mono (Nat.zero_le _)) (Nat.zero_le _) (by simp [hcz.bare]) (fun _ _ => ⟨rfl, rfl⟩), hPz.low, fun b o hb => ?_, hPz.val⟩
    obtain ⟨q1, q2, q3, q4⟩ := hPz.out b o hb
    refine ⟨q1, q2, ?_, q4⟩
    rintro ⟨i, Li, hi, hh⟩
    rw [hloc] at hi
    split at hi
    · obtain rfl := Option.some.inj hi
      exact hap z y Lz L hzy hplz hpl b o hb hh
    · exact q3 ⟨i, Li, hi, hh⟩
  · replace hz : (if z = y then none else pl z) = some Lz := hz
    replace hz' : (if z' = y then none else pl z') = some Lz' := hz'
    split at hz
    · simp at hz
    · split at hz'
      · simp at hz'
      · exact hap z z' Lz Lz' hzz hz hz'
  · replace hz : (if z = y then none else pl z) = some Lz := hz
    split at hz
    · simp at hz
    · rename_i hzy
      obtain ⟨k1, k2⟩ := hmem z Lz hz
      exact ⟨(List.mem_cons.1 k1).resolve_left hzy, k2⟩

theorem Core.settle {an : RAnn} (F : Facts C ops an) (hT : s0.T = []) {hs : List (Heap × Bool)} (hrun : runOrd C ops.toList an.flo an.order s0 = some (sf, hs)) {listed : Array Bool} (hsize : listed.size = ops.size) :
    ∀ (L2 L1 : List Nat) (h : Heap × Bool) (pl : Nat → Option Loc) (E : Env), Core C B E0 H0 w0 ops an s0 sf ((s0.H, s0.esc) :: hs) listed L1 L2 h pl E a w →
    ∃ E' L1' L2' h' pl', Core C B E0 H0 w0 ops an s0 sf ((s0.H, s0.esc) :: hs) listed L1' L2' h' pl' E' a w ∧ ∀ x r, L2' = x :: r → listed.getD x true = false
  | [], L1, h, pl, E, K => ⟨E, L1, [], h, pl, K, fun x r hx => by simp at hx⟩
  | y :: r, L1, h, pl, E, K => by
    obtain ⟨o, _, hlt⟩ := Facts.loudLt (C := C) (ops := ops) (an := an) (x := y) (by rw [K.louds]; simp)
    rcases either (listed := listed) (i := y) (by rw [hsize]; exact hlt) with hy | hy
    · exact ⟨E, L1, y :: r, h, pl, K, fun x q hx => by
        simp only [List.cons.injEq] at hx
        rw [← hx.1]; exact hy⟩
    · obtain ⟨h', E', K'⟩ := K.take F hT hrun hy
      exact Core.settle F hT hrun hsize r _ _ _ _ K'

end
end Go.X
