/-
  Regions that draw their order: one operation.
-/
import Derived.Test.YtclmndonaljppaaKac
import Derived.Laws.Externs

namespace Go.X
open Go.RowKit (Below)

section
variable {C : Ctx} {B : Nat} {E0 E E' : Env} {H0 : Heap} {w0 : World} {s s0 sf : St} {a : Act} {w w' : World} {Q : Exit → Act → World → Prop} {ops : Array Oper}

/-- What stays of a block made early, when the memory goes on. -/
theorem pds_later {an : RAnn} {listed : Array Bool} {L2 : List Nat} {pl : Nat → Option Loc} {k : Nat} {dst : Option Nat} {c : Value}
    (h : ∀ y ∈ L2, listed.getD y false = true → ∃ o d mk bk L, Canon C ops an s0 y o d mk bk ∧ pl y = some L ∧ Pend C B w0 mk bk E w L d (a.tmps.getD d undef)) (ht : Tr B k E w E' w')
    (hd : ∀ y ∈ L2, listed.getD y false = true → ∀ o, ops.toList[y]? = some o → o.dst = none ∨ o.dst ≠ dst) :
    ∀ y ∈ L2, listed.getD y false = true → ∃ o d mk bk L, Canon C ops an s0 y o d mk bk ∧ pl y = some L ∧ Pend C B w0 mk bk E' w' L d ((a.put dst c).tmps.getD d undef) := by
  intro y hy hl
  obtain ⟨o, d, mk, bk, L, hc, hp, hP⟩ := h y hy hl
  refine ⟨o, d, mk, bk, L, hc, hp, ?_⟩
  rw [put_get (by
    rcases hd y hy hl o hc.op with h1 | h1
    · rw [hc.dst] at h1; simp at h1
    · rw [hc.dst] at h1; exact fun e => h1 e.symm)]
  exact hP.later hc.bare ht

/-- What a new block's coming early leaves behind. -/
theorem early {mk : Nat → AV} {bk : Blk} {d : Nat} {c : Value} {H : Heap} (hI : IV C B E0 H0 w0 E s a w) (hsH : s.H = H) (hm : (∃ g, mk = fun id => .ptr ⟨id, 0, [], g⟩) ∨ ∃ g sz n, mk = fun id => .sl ⟨id, 0, [], g⟩ sz n 0 n) (hbare : bk.root.refs = []) (htup : bk.root.isTup = false)
    (hr : Res B C.n0 E s.H w (mk H.length) (H ++ [some bk]) false E' w' c) :
    ∃ E2 L, Sim B E2 H w' ∧ Tr B H.length E w E2 w' ∧ Pend C B w0 mk bk E2 w' L d c ∧ ∀ b o, L.has b o → w.heap.size ≤ b := by
  subst hsH
  have hs := hI.sr.sim
  have hblk : ∀ i, Heap.blk (s.H ++ [some bk]) i = if i = s.H.length then some bk else s.H.blk i := fun i => Heap.blk_append (fun b hb => by obtain rfl := Option.some.inj hb; exact htup)
  have hmp : ∀ i, Heap.mp (s.H ++ [some bk]) i = s.H.mp i := fun i => Heap.mp_append (fun b hb => by obtain rfl := Option.some.inj hb; exact htup)
  obtain ⟨L, hL, hB, hlow⟩ := hr.sim.live s.H.length bk (by rw [hblk, if_pos rfl])
  have hltop : ∀ i, i < s.H.length → ∀ bki, s.H.blk i = some bki → (s.H ++ [some bk]).blk i = some bki := fun i hi bki hb => by rw [hblk, if_neg (by omega)]; exact hb
  have hless := hr.sim.less (E' := ⟨fun i => if (s.H.blk i).isSome then E'.loc i else none, E'.m, s.H.length, E'.mloc, E'.yl⟩) (H' := s.H) rfl (fun i bki hi => by
      have hlt := Heap.blk_some hi
      refine ⟨hltop i hlt bki hi, fun r hrr => ?_⟩
      obtain ⟨Li, _, hBi, _⟩ := hs.live i bki hi
      have := hBi.refs_lt r hrr
      rw [hs.top] at this
      exact this) (fun i => rfl) (fun i es he => by rw [hmp]; exact he) (fun i => by
      cases hj : E'.mloc i with
      | none => simp
      | some b =>
        obtain ⟨es, he⟩ := hr.sim.mdead i b hj
        rw [hmp] at he
        simp [he]) (fun _ _ _ h => h) (fun b o c hc => ⟨hr.sim.imm b o c hc, fun ⟨i, Li, hi, hh⟩ => by
      simp only at hi
      split at hi
      · exact hr.sim.immApart b o c hc ⟨i, Li, hi, hh⟩
      · simp at hi⟩) (fun _ _ _ h => .inl h)
  have hnew : ∀ b o, L.has b o → w.heap.size ≤ b := fun b o hb => by
    rcases Nat.lt_or_ge b w.heap.size with hlt | hge
    · exfalso
      obtain ⟨j, Lj, hj, hjh⟩ := hr.tr.ext b o hlt ⟨_, L, hL, hb⟩
      obtain ⟨bj, hbj⟩ := hs.dead j Lj hj
      have hjlt := Heap.blk_some hbj
      obtain ⟨Lj2, hj2, hBj2, _⟩ := hr.sim.live j bj (hltop j hjlt bj hbj)
      obtain ⟨L0, hL0, hor⟩ := hr.tr.evol.loc j hjlt Lj2 hj2
      obtain rfl : Lj = L0 := by rw [hj] at hL0; exact Option.some.inj hL0
      obtain ⟨Lj', hj', hBj, _⟩ := hs.live j bj hbj
      obtain rfl : Lj = Lj' := by rw [hj] at hj'; exact Option.some.inj hj'
      obtain ⟨cs1, f1, g1, _⟩ := hBj.cs
      obtain ⟨cs2, f2, g2, _⟩ := hBj2.cs
      have e1 := f1.length
      have e2 := f2.length
      have hgen : Lj.gen = Lj2.gen := by omega
      have hsame : Lj2 = Lj := hor.resolve_right (by omega)
      subst hsame
      exact hr.sim.apart j s.H.length Lj2 L hj2 hL (by omega) b o hjh hb
    · exact hge
  refine ⟨_, L, hless.1, hr.tr.trans (hless.2 _), ⟨hB.later (k := 0) ((hless.2 0).evol) (Nat.zero_le _) (by simp [hbare]) (fun _ _ => ⟨rfl, rfl⟩), hlow, fun b o hb => ⟨?_, ?_, ?_, ?_⟩, fun _ E2 T h2 hT => mk_move hm hr.val hL h2 hT⟩, hnew⟩
  · exact Nat.le_trans hI.tr.below.size (hnew b o hb)
  · obtain ⟨h1, h2, h3⟩ := hb
    have h4 := (hB.room (o - L.base) (by omega)).1
    obtain ⟨c', hc'⟩ := Option.isSome_iff_exists.1 h4
    have := World.block_lt_of_cell? w' _ hc'
    rw [← h1]
    exact this
  · rintro ⟨i, Li, hi, hh⟩
    simp only at hi
    split at hi
    · rename_i his
      obtain ⟨bi, hbi⟩ := Option.isSome_iff_exists.1 his
      have := Heap.blk_some hbi
      exact hr.sim.apart i s.H.length Li L hi hL (by omega) b o hh hb
    · simp at hi
  · cases hm' : E'.m b o with
    | none => rfl
    | some c' => exact absurd ⟨_, L, hL, hb⟩ (hr.sim.immApart b o c' hm')

theorem op_step {ro : Option Nat} (hK : Snd C B E0 w0) {an : RAnn} (F : Facts C ops an) (hT : s0.T = []) {hs : List (Heap × Bool)} (hrun : runOrd C ops.toList an.flo an.order s0 = some (sf, hs)) (hchk : chkAll C ops.toList sf ((s0.H, s0.esc) :: hs) an.chk = true)
    {listed : Array Bool} (hI : Inv C B E0 H0 w0 ops an s0 sf ((s0.H, s0.esc) :: hs) listed E a w) {i : Nat} (hi : i ∈ Region.ready .any ops listed) {K : Act → World → Prop}
    (hn : ∀ E' a' w', Inv C B E0 H0 w0 ops an s0 sf ((s0.H, s0.esc) :: hs) (listed.setIfInBounds i true) E' a' w' → K a' w') : wpOpIn (FW ro) 0 C.P ops Q i K a w := by
  obtain ⟨hsize, hdown, L1, L2, h, pl, ⟨hL, hL1, hh, hIV, hpds, hap, hmem⟩, hhead⟩ := hI
  obtain ⟨hun, o, ho, hpre⟩ := mem_ready.1 hi
  have hin : i < ops.size := (Array.getElem?_eq_some_iff.1 ho).1
  have hoL : ops.toList[i]? = some o := by simpa using ho
  have hprecs : ∀ j ∈ precs o, listed.getD j false = true := fun j hj => by
    simp only [precs, List.mem_filterMap] at hj
    obtain ⟨e, he, hj⟩ := hj
    split at hj
    · rename_i hb
      obtain rfl := Option.some.inj hj
      exact hpre e (by simpa using he) hb
    · simp at hj
  have hbefi : ∀ x, Bef ops.toList x i → listed.getD x false = true := fun x hb => hb _ o hdown hoL hprecs
  have hbefl : ∀ x y, listed.getD y false = true → (∃ oy, ops.toList[y]? = some oy) → Bef ops.toList x y → listed.getD x false = true := fun x y hy ⟨oy, hoy⟩ hb => hb _ oy hdown hoy (hdown y oy hy hoy)
  -- the place in the notes' order
  obtain ⟨pre, post, hord⟩ := List.append_of_mem (F.all i hin)
  obtain ⟨o2, si, hspre, si', hspost, g1, g2, g3, g3', g4, hhs⟩ := runOrd_split pre i post s0 sf hs (hord ▸ hrun)
  obtain rfl : o = o2 := by rw [hoL] at g1; exact Option.some.inj g1
  obtain ⟨glen, glast⟩ := runOrd_len pre s0 si hspre g2
  obtain ⟨⟨o3, p1, p2⟩, pnew⟩ := F.place pre i post hord
  obtain rfl : o = o3 := by rw [hoL] at p1; exact Option.some.inj p1
  have hpd : Down ops.toList (fun j => j ∈ pre) := fun j oj hj hoj k hk => by
    obtain ⟨q1, q2, rfl⟩ := List.append_of_mem hj
    obtain ⟨⟨o4, r1, r2⟩, _⟩ := F.place q1 j (q2 ++ i :: post) (by rw [hord]; simp)
    obtain rfl : oj = o4 := by rw [hoj] at r1; exact Option.some.inj r1
    exact List.mem_append.2 (.inl (r2 k hk))
  have hnot : ∀ j ∈ pre, j ∉ i :: post := fun j hj hj2 => by
    rcases List.mem_cons.1 hj2 with rfl | hj2
    · exact pnew hj
    · obtain ⟨q1, q2, rfl⟩ := List.append_of_mem hj2
      exact (F.place (pre ++ i :: q1) j q2 (by rw [hord]; simp)).new (List.mem_append.2 (.inl hj))
  have hnot2 : i ∉ post := (F.once hord).2
  have hfr : ∀ t, (∀ m ∈ i :: post, ∀ om, ops.toList[m]? = some om → om.dst ≠ some t) → sf.get C.A t = si.get C.A t := fun t ht => by
    rw [runOrd_get post si' sf hspost g4 t (fun m hm => ht m (List.mem_cons_of_mem _ hm)), stepOp_get g3 (ht i List.mem_cons_self o hoL)]
  -- one that came early is not read yet
  have hpendNot : ∀ y ∈ L2, listed.getD y false = true → ∀ oy t, ops.toList[y]? = some oy → oy.dst = some t → t ∉ readsOf ops.toList o := fun y hy hyl oy t hoy hyt htr => by
    cases L2 with
    | nil => simp at hy
    | cons x r =>
      have hxu := hhead x r rfl
      rcases List.mem_cons.1 hy with rfl | hyr
      · exact not_both hxu hyl
      · have hpw := F.pairs
        rw [hL] at hpw
        rcases (List.pairwise_cons.1 (List.pairwise_append.1 hpw).2.1).1 y hyr with hb | ⟨_, oy', t', hoy', _, _, hyt', hall⟩
        · exact not_both hxu (hbefl x y hyl ⟨oy, hoy⟩ hb)
        · obtain rfl : oy = oy' := by rw [hoy] at hoy'; exact Option.some.inj hoy'
          obtain rfl : t = t' := by rw [hyt] at hyt'; exact Option.some.inj hyt'
          rcases hall i o hoL htr with hb | hb
          · exact not_both hxu (hbefi x hb)
          · exact not_both hun (hbefl i y hyl ⟨oy, hoy⟩ hb)
  -- what the operation reads
  have hreads : ∀ t ∈ readsOf ops.toList o, pendB ops listed L2 t = false ∧ ((dead ops listed t = true ∧ s0.get C.A t = si.get C.A t ∧ isRead o.op = false) ∨ (dead ops listed t = false ∧ sf.get C.A t = si.get C.A t)) := fun t ht => by
    refine ⟨pend_false ?_, ?_⟩
    · rintro ⟨y, oy, hy, hyl, hoy, hyt⟩
      exact hpendNot y hy hyl oy t hoy hyt ht
    · by_cases hw : ∃ (j : Nat) (oj : Oper), ops.toList[j]? = some oj ∧ oj.dst = some t
      · obtain ⟨j, oj, hoj, hjt⟩ := hw
        have hjlt : j < ops.size := by
          have := (List.getElem?_eq_some_iff.1 hoj).1
          simpa using this
        rcases F.avail i j t o oj hoj hjt hoL ht with hb | ⟨hb, hrd⟩
        · right
          have hjl := hbefi j hb
          have hjp : j ∈ pre := hb _ o hpd hoL p2
          refine ⟨dead_false ?_, hfr t (fun m hm om hom hd => hnot j hjp (by rw [F.uniq _ _ _ _ _ hoj hom hjt hd]; exact hm))⟩
          rintro ⟨m, om, _, h2, h3, h4⟩
          rw [F.uniq _ _ _ _ _ h3 hoj h4 hjt] at h2
          exact not_both h2 hjl
        · left
          have hju : listed.getD j true = false := (either (by rw [hsize]; exact hjlt)).resolve_right (fun hjl => not_both hun (hbefl i j hjl ⟨oj, hoj⟩ hb))
          refine ⟨dead_true.2 ⟨j, oj, hjlt, hju, hoj, hjt⟩, ?_, hrd⟩
          refine (runOrd_get pre s0 si hspre g2 t (fun m hm om hom hd => ?_)).symm
          rw [F.uniq _ _ _ _ _ hom hoj hd hjt] at hm
          exact pnew (hb _ oj hpd hoj (hpd j oj hm hoj))
      · right
        refine ⟨dead_false ?_, hfr t (fun m hm om hom hd => hw ⟨m, om, hom, hd⟩)⟩
        rintro ⟨m, om, _, _, h3, h4⟩
        exact hw ⟨m, om, h3, h4⟩
  have hget : ∀ t ∈ readsOf ops.toList o, ∀ h, (stAt (pendB ops listed L2) (dead ops listed) s0 sf h).get C.A t = si.get C.A t := fun t ht h => by
    rw [stAt_get _ _ hT, (hreads t ht).1]
    rcases (hreads t ht).2 with ⟨k1, k2, _⟩ | ⟨k1, k2⟩
    · rw [k1]; exact k2
    · rw [k1]; exact k2
  have hev : ∀ x ∈ o.op.operands.toList, ∀ h, (stAt (pendB ops listed L2) (dead ops listed) s0 sf h).eval C.A x = si.eval C.A x := fun x hx h => by
    cases x with
    | tmp t => exact hget t (List.mem_append.2 (.inl (List.mem_filterMap.2 ⟨_, hx, rfl⟩))) h
    | _ => rfl
  have hwantg : ∀ s : St, (∀ t ∈ readsOf ops.toList o, s.get C.A t = si.get C.A t) → wantedAV C.A ops.toList s o = wantedAV C.A ops.toList si o := fun s hsg => by
    unfold wantedAV
    split
    · rfl
    · rename_i j want hg
      split
      · rename_i d hd
        rw [hsg d (by unfold readsOf; rw [hg]; simp only [hd]; simp)]
      · rfl
  -- the marks behind
  have hun2 : ∀ m, (listed.setIfInBounds i true).getD m true = false → listed.getD m true = false ∧ m ≠ i := fun m hm => by
    by_cases hmi : i = m
    · subst hmi
      simp [hsize, hin] at hm
    · rw [getD_set_ne true hmi] at hm
      exact ⟨hm, fun e => hmi e.symm⟩
  have hsize' : (listed.setIfInBounds i true).size = ops.size := by simp [hsize]
  have hseti : (listed.setIfInBounds i true).getD i false = true := by simp [hsize, hin]
  have hmono : ∀ {j}, listed.getD j false = true → (listed.setIfInBounds i true).getD j false = true := fun hj => getD_set_true hj
  have hback : ∀ j, j ≠ i → (listed.setIfInBounds i true).getD j false = true → listed.getD j false = true := fun j hji hj => by
    rwa [getD_set_ne false (fun e => hji e.symm)] at hj
  have hdown' : Down ops.toList (fun j => (listed.setIfInBounds i true).getD j false = true) := fun j oj hj hoj k hk => by
    by_cases hji : i = j
    · subst hji
      rw [hoL] at hoj
      obtain rfl := Option.some.inj hoj
      exact hmono (hprecs k hk)
    · exact hmono (hdown j oj (hback j (fun e => hji e.symm) hj) hoj k hk)
  have hdead' : ∀ t, o.dst ≠ some t → dead ops (listed.setIfInBounds i true) t = dead ops listed t := fun t ht => by
    cases hd : dead ops listed t
    · refine dead_false ?_
      rintro ⟨m, om, k1, k2, k3, k4⟩
      have : dead ops listed t = true := dead_true.2 ⟨m, om, k1, (hun2 m k2).1, k3, k4⟩
      rw [hd] at this; simp at this
    · obtain ⟨m, om, k1, k2, k3, k4⟩ := dead_true.1 hd
      have hmi : i ≠ m := fun e => by
        subst e
        rw [hoL] at k3
        obtain rfl := Option.some.inj k3
        exact ht k4
      exact dead_true.2 ⟨m, om, k1, by rw [getD_set_ne true hmi]; exact k2, k3, k4⟩
  have hpend' : ∀ (r : List Nat), (∀ y, y ∈ L2 ∧ y ≠ i ↔ y ∈ r ∧ y ≠ i) → ∀ t, o.dst ≠ some t → pendB ops (listed.setIfInBounds i true) r t = pendB ops listed L2 t := fun r hr t ht => by
    cases hd : pendB ops listed L2 t
    · refine pend_false ?_
      rintro ⟨y, oy, k1, k2, k3, k4⟩
      have hyi : y ≠ i := fun e => by
        subst e
        rw [hoL] at k3
        obtain rfl := Option.some.inj k3
        exact ht k4
      have : pendB ops listed L2 t = true := pend_true.2 ⟨y, oy, ((hr y).2 ⟨k1, hyi⟩).1, hback y hyi k2, k3, k4⟩
      rw [hd] at this; simp at this
    · obtain ⟨y, oy, k1, k2, k3, k4⟩ := pend_true.1 hd
      have hyi : y ≠ i := fun e => by
        subst e
        exact not_both hun k2
      exact pend_true.2 ⟨y, oy, ((hr y).1 ⟨k1, hyi⟩).1, hmono k2, k3, k4⟩
  have hdstP : ∀ y ∈ L2, listed.getD y false = true → ∀ oy, ops.toList[y]? = some oy → oy.dst = none ∨ oy.dst ≠ o.dst := fun y hy hyl oy hoy => by
    cases hd : oy.dst with
    | none => exact .inl rfl
    | some t =>
      right
      intro e
      have := F.uniq _ _ _ _ _ hoy hoL hd e.symm
      subst this
      exact not_both hun hyl
  have hdst : ∀ (r : List Nat), i ∉ r → ∀ d, o.dst = some d → ∀ h', (stAt (pendB ops (listed.setIfInBounds i true) r) (dead ops (listed.setIfInBounds i true)) s0 sf h').get C.A d = si'.get C.A d := fun r hir d hd h' => by
    rw [stAt_get _ _ hT]
    have h1 : pendB ops (listed.setIfInBounds i true) r d = false := pend_false (by
      rintro ⟨y, oy, k1, _, k3, k4⟩
      rw [F.uniq _ _ _ _ _ k3 hoL k4 hd] at k1
      exact hir k1)
    have h2 : dead ops (listed.setIfInBounds i true) d = false := dead_false (by
      rintro ⟨m, om, _, k2, k3, k4⟩
      exact (hun2 m k2).2 (F.uniq _ _ _ _ _ k3 hoL k4 hd))
    rw [h1, h2]
    exact runOrd_get post si' sf hspost g4 d (fun m hm om hom hmd => hnot2 (by rw [F.uniq _ _ _ _ _ hoL hom hd hmd]; exact hm))
  have hother : ∀ (r : List Nat), (∀ y, y ∈ L2 ∧ y ≠ i ↔ y ∈ r ∧ y ≠ i) → ∀ t h h', o.dst ≠ some t → (stAt (pendB ops (listed.setIfInBounds i true) r) (dead ops (listed.setIfInBounds i true)) s0 sf h').get C.A t = (stAt (pendB ops listed L2) (dead ops listed) s0 sf h).get C.A t := fun r hr t h h' ht => by
    rw [stAt_get _ _ hT, stAt_get _ _ hT, hdead' t ht, hpend' r hr t ht]
  obtain ⟨b, hb, hres⟩ := stepOp_res g3
  have hsame : ∀ v H' e, si' = si.res C o.dst v H' e → ∀ d, o.dst = some d → si'.get C.A d = .bad ∨ (si'.get C.A d = v ∧ d < C.N) := fun v H' e hsi' d hd => by
    rw [hsi']
    unfold St.res
    rw [hd]
    simp only
    by_cases hdN : d < C.N
    · rw [if_pos hdN]
      exact (set_get_self).symm.imp id (fun h => ⟨h, hdN⟩)
    · rw [if_neg hdN]
      exact .inl (set_get_self.elim id id)
  have hskip : si' = (match o.dst with | some d => si.set C.A d .undf | none => si) → ∀ d, o.dst = some d → si'.get C.A d = .bad ∨ (si'.get C.A d = .undf ∧ (d < C.N ∨ undef = undef)) := fun hsi' d hd => by
    rw [hsi', hd]
    exact set_get_self.symm.imp id (fun h => ⟨h, .inr rfl⟩)
  unfold wpOpIn
  rw [ho]
  simp only
  rw [wanted_ok hIV.sr ((hwantg _ (fun t ht => hget t ht h)).trans hb)]
  have hlo : loudAt C.P ops.toList i = isLoud C.P o.op := by unfold loudAt; rw [hoL]
  cases hloud : isLoud C.P o.op
  · -- a quiet one
    have hi2 : i ∉ L2 := fun hx => by
      have : i ∈ an.order.filter (loudAt C.P ops.toList) := by rw [hL]; exact List.mem_append.2 (.inr hx)
      rw [List.mem_filter, hlo, hloud] at this
      simp at this
    have hmid : ∀ {E' a' w' k c}, Tr B k E w E' w' → a' = a.put o.dst c → IV C B E0 H0 w0 E' (stAt (pendB ops (listed.setIfInBounds i true) L2) (dead ops (listed.setIfInBounds i true)) s0 sf h) a' w' →
        Inv C B E0 H0 w0 ops an s0 sf ((s0.H, s0.esc) :: hs) (listed.setIfInBounds i true) E' a' w' := fun {E' a' w' k c} htr ha' hIV' => by
      subst ha'
      refine ⟨hsize', hdown', L1, L2, h, pl, ⟨hL, fun x hx => hmono (hL1 x hx), hh, hIV', fun y hy hyl => ?_, hap, fun y L hy => ⟨(hmem y L hy).1, hmono (hmem y L hy).2⟩⟩, fun x r hx => ?_⟩
      · have hyi : y ≠ i := fun e => hi2 (by rw [← e]; exact hy)
        exact pds_later hpds htr hdstP y hy (hback y hyi hyl)
      · have hxi : i ≠ x := fun e => hi2 (by rw [hx, e]; exact List.mem_cons_self)
        rw [getD_set_ne true hxi]
        exact hhead x r hx
    rcases hres with ⟨rfl, v, H', e, he, hsi'⟩ | ⟨rfl, hsi'⟩
    · simp only [if_true]
      have hq := quiet_ok he hloud
      -- what it yields here
      have hhere : ∃ v', evalOp C (stAt (pendB ops listed L2) (dead ops listed) s0 sf h) o.op o.type = some (v', h.1, false) ∧ ∀ d, o.dst = some d → si'.get C.A d = .bad ∨ (si'.get C.A d = v' ∧ d < C.N) := by
        by_cases hr : isRead o.op = true
        · -- it reads: at its own place, or looked at
          by_cases hp : L1.length = (pre.filter (loudAt C.P ops.toList)).length
          · have hhe : h = (si.H, si.esc) := by
              have : ((s0.H, s0.esc) :: hs)[hspre.length]? = some (si.H, si.esc) := by
                rw [hhs, ← List.cons_append, List.getElem?_append_left (by simp)]
                exact glast
              rw [glen, ← hp, hh] at this
              exact Option.some.inj this
            subst hhe
            refine ⟨v, ?_, hsame v H' e hsi'⟩
            have h9 := evalOp_congr (C := C) (s := stAt (pendB ops listed L2) (dead ops listed) s0 sf (si.H, si.esc)) (s' := si) (op := o.op) (ty := o.type) rfl (fun x hx => hev x hx _)
            rw [h9, he, hq.1, hq.2.1]
          · have hsfg : ∀ t ∈ readsOf ops.toList o, sf.get C.A t = si.get C.A t := fun t ht => by
              rcases (hreads t ht).2 with ⟨_, _, k⟩ | ⟨_, k⟩
              · rw [hr] at k; simp at k
              · exact k
            have hevf : ∀ x ∈ o.op.operands.toList, sf.eval C.A x = si.eval C.A x := fun x hx => by
              cases x with
              | tmp t => exact hsfg t (List.mem_append.2 (.inl (List.mem_filterMap.2 ⟨_, hx, rfl⟩)))
              | _ => rfl
            obtain ⟨tab, ht, hrd⟩ := F.reads
            rcases hrd pre i post o hord hoL hloud hr L1.length (by rw [hL]; simp) with h1 | h1 | h1
            · exact absurd h1 hp
            · have hmem' : ∃ js, (i, js) ∈ an.chk ∧ L1.length ∈ js := by
                cases hlk : an.chk.lookup i with
                | none => rw [hlk] at h1; simp at h1
                | some js =>
                  rw [hlk] at h1
                  refine ⟨js, ?_, h1⟩
                  clear h1 hrd
                  revert hlk
                  generalize an.chk = l
                  intro hlk
                  induction l with
                  | nil => simp at hlk
                  | cons x l ih =>
                    rw [List.lookup_cons] at hlk
                    split at hlk
                    · rename_i hx
                      have hx' : i = x.1 := by simpa using hx
                      obtain rfl := Option.some.inj hlk
                      rw [hx']
                      exact List.mem_cons_self
                    · exact List.mem_cons_of_mem _ (ih hlk)
              obtain ⟨js, hjs, hpj⟩ := hmem'
              have hc := List.all_eq_true.1 hchk (i, js) hjs
              rw [hoL] at hc
              have hc := List.all_eq_true.1 hc L1.length hpj
              rw [hh] at hc
              simp only [chkOne] at hc
              rw [hwantg sf hsfg, hb] at hc
              simp only at hc
              split at hc
              · rename_i r hr'
                have he2 : evalOp C (stAt (pendB ops listed L2) (dead ops listed) s0 sf h) o.op o.type = some r := by
                  rw [← hr']
                  exact evalOp_congr rfl (fun x hx => (hev x hx h).trans (hevf x hx).symm)
                obtain ⟨r1, r2, r3⟩ := r
                obtain ⟨k1, k2, _⟩ := quiet_ok he2 hloud
                refine ⟨r1, by rw [he2, k1, k2]; rfl, fun d hd => ?_⟩
                rw [hd] at hc
                have hsd : sf.get C.A d = si'.get C.A d := runOrd_get post si' sf hspost g4 d (fun m hm om hom hmd => hnot2 (by rw [F.uniq _ _ _ _ _ hoL hom hd hmd]; exact hm))
                simp only [Bool.or_eq_true, Bool.and_eq_true, decide_eq_true_eq] at hc
                rw [← hsd]
                rcases hc with hc | hc
                · left
                  cases hq2 : sf.get C.A d <;> rw [hq2] at hc <;> simp [AV.isBad] at hc ⊢
                · exact .inr ⟨(AV.beq_eq _ _ hc.2).symm, hc.1⟩
              · simp at hc
            · -- not possible
              exfalso
              unfold possible at h1
              rw [hL, List.take_left, List.drop_left, Bool.and_eq_false_iff] at h1
              rcases h1 with h1 | h1
              · have : (L1.all fun x => !bef tab i x) = true := by
                  simp only [List.all_eq_true, Bool.not_eq_true']
                  intro x hx
                  cases hbx : bef tab i x
                  · rfl
                  · exfalso
                    obtain ⟨ox, hox, _⟩ := Facts.loudLt (C := C) (ops := ops) (an := an) (x := x) (by rw [hL]; exact List.mem_append.2 (.inl hx))
                    exact not_both hun (hbefl i x (hL1 x hx) ⟨ox, hox⟩ (bef_ok ht hbx))
                rw [this] at h1
                simp at h1
              · cases L2 with
                | nil => simp at h1
                | cons x r =>
                  simp only [Bool.not_eq_false'] at h1
                  exact not_both (hhead x r rfl) (hbefi x (bef_ok ht h1))
        · have hr' : isRead o.op = false := by simpa using hr
          refine ⟨v, ?_, hsame v H' e hsi'⟩
          have h1 := (quiet_ok he hloud).2.2 hr' h.1
          rw [← h1]
          exact evalOp_congr rfl (fun x hx => by rw [hev x hx h]; cases x <;> rfl)
      obtain ⟨v', hev', hd'⟩ := hhere
      refine wp_in (noDefer hev') (op_ok hK.k hK.x (hK.g.evol hIV.tr.evol) hIV.sr hev' (fun E' w' c hr => hn E' _ w' (hmid hr.tr rfl (hIV.to hr rfl (by simp [stAt]) (fun t ht => .inr (hother L2 (fun y => Iff.rfl) t h h ht)) (fun d hd => ?_)))))
      rw [hdst L2 hi2 d hd h]
      exact (hd' d hd).imp id (fun h => ⟨h.1, .inl h.2⟩)
    · simp only [Bool.false_eq_true, if_false]
      refine ⟨about_wide _ _ _ _ _, hn E _ w (hmid (k := 0) (Tr.refl _ _ _ _) rfl (hIV.to (v := .undf) (c := undef) (e := false) (Res.same hIV.sr.sim rfl) rfl (by simp [stAt]) (fun t ht => .inr (hother L2 (fun y => Iff.rfl) t h h ht)) (fun d hd => ?_)))⟩
      rw [hdst L2 hi2 d hd h]
      exact hskip hsi' d hd
  · -- a loud one
    have hiL : i ∈ L1 ++ L2 := by
      rw [← hL]
      exact List.mem_filter.2 ⟨F.all i hin, by rw [hlo, hloud]⟩
    have hiL2 : i ∈ L2 := (List.mem_append.1 hiL).resolve_left (fun h1 => not_both hun (hL1 i h1))
    have hpw := F.pairs
    rw [hL] at hpw
    cases L2 with
    | nil => simp at hiL2
    | cons x r =>
      have hxu := hhead x r rfl
      obtain ⟨hx1, hx2⟩ := F.loudOnce hL
      by_cases hxi : x = i
      · -- its place
        subst hxi
        obtain ⟨pre2, post2, hord2, f1, f2, f3⟩ := filter_at hL
        have hpp := split_eq (F.place pre2 x post2 hord2).new pnew (hord2.symm.trans hord)
        have hlen : L1.length = hspre.length := by rw [glen, ← hpp.1, f1]
        have hhe : h = (si.H, si.esc) := by
          have : ((s0.H, s0.esc) :: hs)[hspre.length]? = some (si.H, si.esc) := by
            rw [hhs, ← List.cons_append, List.getElem?_append_left (by simp)]
            exact glast
          rw [← hlen, hh] at this
          exact Option.some.inj this
        have hnext : ((s0.H, s0.esc) :: hs)[(L1 ++ [x]).length]? = some (si'.H, si'.esc) := by
          rw [hhs, hloud]
          simp [hlen]
        have hrr : ∀ y, y ∈ x :: r ∧ y ≠ x ↔ y ∈ r ∧ y ≠ x := fun y => by
          constructor
          · rintro ⟨h1, h2⟩; exact ⟨(List.mem_cons.1 h1).resolve_left h2, h2⟩
          · rintro ⟨h1, h2⟩; exact ⟨List.mem_cons_of_mem _ h1, h2⟩
        have hmid : ∀ {E' a' w' k c}, Tr B k E w E' w' → a' = a.put o.dst c → IV C B E0 H0 w0 E' (stAt (pendB ops (listed.setIfInBounds x true) r) (dead ops (listed.setIfInBounds x true)) s0 sf (si'.H, si'.esc)) a' w' →
            ∃ E'', Inv C B E0 H0 w0 ops an s0 sf ((s0.H, s0.esc) :: hs) (listed.setIfInBounds x true) E'' a' w' := fun {E' a' w' k c} htr ha' hIV' => by
          subst ha'
          have hcore : Core C B E0 H0 w0 ops an s0 sf ((s0.H, s0.esc) :: hs) (listed.setIfInBounds x true) (L1 ++ [x]) r (si'.H, si'.esc) pl E' (a.put o.dst c) w' := by
            refine ⟨by rw [hL]; simp, fun y hy => ?_, hnext, hIV', fun y hy hyl => ?_, hap, fun y L hy => ?_⟩
            · rcases List.mem_append.1 hy with hy | hy
              · exact hmono (hL1 y hy)
              · rw [List.mem_singleton.1 hy]; exact hseti
            · have hyx : y ≠ x := fun e => hx2 (by rw [← e]; exact hy)
              exact pds_later hpds htr hdstP y (List.mem_cons_of_mem _ hy) (hback y hyx hyl)
            · obtain ⟨k1, k2⟩ := hmem y L hy
              refine ⟨(List.mem_cons.1 k1).resolve_left (fun e => ?_), hmono k2⟩
              rw [e] at k2
              exact not_both hun k2
          obtain ⟨E'', L1', L2', h', pl', k1, k2⟩ := hcore.settle F hT hrun hsize'
          exact ⟨E'', hsize', hdown', L1', L2', h', pl', k1, k2⟩
        subst hhe
        rcases hres with ⟨rfl, v, H', e, he, hsi'⟩ | ⟨rfl, hsi'⟩
        · simp only [if_true]
          have hev' : evalOp C (stAt (pendB ops listed (x :: r)) (dead ops listed) s0 sf (si.H, si.esc)) o.op o.type = some (v, H', e) := by
            have h9 := evalOp_congr (C := C) (s := stAt (pendB ops listed (x :: r)) (dead ops listed) s0 sf (si.H, si.esc)) (s' := si) (op := o.op) (ty := o.type) rfl (fun y hy => hev y hy _)
            rw [h9, he]
          refine wp_in (noDefer hev') (op_ok hK.k hK.x (hK.g.evol hIV.tr.evol) hIV.sr hev' (fun E' w' c hr => ?_))
          obtain ⟨E'', hInv⟩ := hmid hr.tr rfl (hIV.to (s2 := stAt (pendB ops (listed.setIfInBounds x true) r) (dead ops (listed.setIfInBounds x true)) s0 sf (si'.H, si'.esc)) hr (by show si'.H = H'; rw [hsi', St.res_H]) (by show si'.esc = (si.esc || e); rw [hsi', St.res_esc])
            (fun t ht => .inr (hother r hrr t _ _ ht)) (fun d hd => by
              rw [hdst r hx2 d hd]
              exact (hsame v H' e hsi' d hd).imp id (fun h => ⟨h.1, .inl h.2⟩)))
          exact hn E'' _ w' hInv
        · simp only [Bool.false_eq_true, if_false]
          have hHe : si'.H = si.H ∧ si'.esc = si.esc := by
            rw [hsi']
            split
            · exact ⟨St.set_H _ _ _ _, St.set_esc _ _ _ _⟩
            · exact ⟨rfl, rfl⟩
          obtain ⟨E'', hInv⟩ := hmid (k := 0) (Tr.refl _ _ _ _) rfl (hIV.to (s2 := stAt (pendB ops (listed.setIfInBounds x true) r) (dead ops (listed.setIfInBounds x true)) s0 sf (si'.H, si'.esc)) (v := .undf) (c := undef) (e := false) (Res.same hIV.sr.sim rfl)
            (by show si'.H = si.H; exact hHe.1) (by show si'.esc = (si.esc || false); rw [hHe.2]; simp) (fun t ht => .inr (hother r hrr t _ _ ht)) (fun d hd => by
              rw [hdst r hx2 d hd]
              exact hskip hsi' d hd))
          exact ⟨about_wide _ _ _ _ _, hn E'' _ w hInv⟩
      · -- ahead of its place
        have hir : i ∈ r := (List.mem_cons.1 hiL2).resolve_left (fun e => hxi e.symm)
        rcases (List.pairwise_cons.1 (List.pairwise_append.1 hpw).2.1).1 i hir with hb' | ⟨hflo, oy, d, hoy, halloc, hguard, hyd, _⟩
        · exact absurd (hbefi x hb') (not_both hxu)
        · obtain rfl : o = oy := by rw [hoL] at hoy; exact Option.some.inj hoy
          have hbt : b = true := by
            unfold wantedAV at hb
            rw [hguard] at hb
            exact (Option.some.inj hb).symm
          subst hbt
          rcases hres with ⟨_, v, H', e, he, hsi'⟩ | ⟨hf, _⟩
          · simp only [if_true]
            obtain ⟨mk, bk, hmk, hshape, htup⟩ := alloc_shape halloc he
            have hevi : evalOp C si o.op o.type = some (mk si.H.length, si.H ++ [some bk], false) := hmk si.H
            have hH' : H' = si.H ++ [some bk] := by
              rw [he] at hevi
              simp only [Option.some.injEq, Prod.mk.injEq] at hevi
              exact hevi.2.1
            have hbare : bk.root.refs = [] := by
              have h1 := g3' hflo
              rw [hsi', St.res_H, hH'] at h1
              unfold lastBare at h1
              simpa using h1
            have hev' : evalOp C (stAt (pendB ops listed (x :: r)) (dead ops listed) s0 sf h) o.op o.type = some (mk h.1.length, h.1 ++ [some bk], false) := by
              rw [← hmk h.1]
              exact evalOp_congr rfl (fun y hy => by rw [hev y hy h]; cases y <;> rfl)
            refine wp_in (noDefer hev') (op_ok hK.k hK.x (hK.g.evol hIV.tr.evol) hIV.sr hev' (fun E' w' c hr => ?_))
            obtain ⟨E2, L, hsim2, htr2, hP2, hfresh⟩ := early (d := d) hIV rfl hshape hbare htup hr
            refine hn E2 _ w' ⟨hsize', hdown', L1, x :: r, h, fun z => if z = i then some L else pl z, ⟨hL, fun y hy => hmono (hL1 y hy), hh, ⟨⟨hsim2, fun t => ?_, ?_, hIV.sr.len⟩, hIV.tr.trans (htr2.mono hIV.sr.len), hIV.marks.later hIV.sr.sim htr2 (put_defers _ _ _), hIV.sub⟩, fun y hy hyl => ?_, fun y y' Ly Ly' hyy hy hy' => ?_, fun y Ly hy => ?_⟩, fun z q hz => ?_⟩
            · have hEt : E.top = h.1.length := hIV.sr.sim.top
              have hE2t : E2.top = h.1.length := hsim2.top
              by_cases htd : o.dst = some t
              · rw [stAt_get _ _ hT]
                have : pendB ops (listed.setIfInBounds i true) (x :: r) t = true := pend_true.2 ⟨i, o, List.mem_cons_of_mem _ hir, hseti, hoL, htd⟩
                rw [this]
                trivial
              · rw [put_get htd, hother (x :: r) (fun y => Iff.rfl) t h h htd]
                have htr2' : Tr B E.top E w E2 w' := by rw [hEt]; exact htr2
                exact (hIV.sr.vals t).later htr2'.evol (by omega)
            · rw [hyd]
              simp [Act.put, hIV.sr.size]
            · by_cases hyi : y = i
              · subst hyi
                refine ⟨o, d, mk, bk, L, ⟨hoL, hguard, hyd, hbare, fun pre' post' si2 hs2 hord2 hrun2 => ?_⟩, by rw [if_pos rfl], ?_⟩
                · obtain ⟨e1, e2⟩ := split_eq (F.once hord2).1 pnew (hord2.symm.trans hord)
                  subst e1
                  rw [g2] at hrun2
                  simp only [Option.some.injEq, Prod.mk.injEq] at hrun2
                  obtain ⟨rfl, rfl⟩ := hrun2
                  exact hevi
                · by_cases hdN : d < C.N
                  · have : (a.put o.dst c).tmps.getD d undef = c := by
                      have hlt : d < a.tmps.size := by rw [hIV.sr.size]; exact hdN
                      rw [hyd]
                      simp only [Act.put]
                      simp [hlt]
                    rw [this]
                    exact hP2
                  · exact ⟨hP2.blk, hP2.low, hP2.out, fun hd => absurd hd hdN⟩
              · obtain ⟨oz, dz, mkz, bkz, Lz, q1, q2, q3⟩ := pds_later (c := c) hpds htr2 hdstP y hy (hback y hyi hyl)
                exact ⟨oz, dz, mkz, bkz, Lz, q1, by rw [if_neg hyi]; exact q2, q3⟩
            · replace hy : (if y = i then some L else pl y) = some Ly := hy
              replace hy' : (if y' = i then some L else pl y') = some Ly' := hy'
              have hold : ∀ z Lz, pl z = some Lz → ∀ b o, Lz.has b o → b < w.heap.size := fun z Lz hz b o hb => by
                obtain ⟨m1, m2⟩ := hmem z Lz hz
                obtain ⟨oz, dz, mkz, bkz, Lz', q1, q2, q3⟩ := hpds z m1 m2
                obtain rfl : Lz = Lz' := by rw [hz] at q2; exact Option.some.inj q2
                exact (q3.out b o hb).2.1
              intro b o k1 k2
              split at hy <;> split at hy'
              · rename_i e1 e2
                exact hyy (by rw [e1, e2])
              · obtain rfl := Option.some.inj hy
                have := hfresh b o k1
                have := hold y' Ly' hy' b o k2
                omega
              · obtain rfl := Option.some.inj hy'
                have := hfresh b o k2
                have := hold y Ly hy b o k1
                omega
              · exact hap y y' Ly Ly' hyy hy hy' b o k1 k2
            · replace hy : (if y = i then some L else pl y) = some Ly := hy
              split at hy
              · rename_i e
                subst e
                exact ⟨List.mem_cons_of_mem _ hir, hseti⟩
              · obtain ⟨m1, m2⟩ := hmem y Ly hy
                exact ⟨m1, hmono m2⟩
            · simp only [List.cons.injEq] at hz
              obtain ⟨rfl, rfl⟩ := hz
              rw [getD_set_ne true (fun e => hxi e.symm)]
              exact hxu
          · simp at hf

end
end Go.X
/-
  Regions: what the evaluator tells is what the model does.
-/
namespace Go.X
open Go.RowKit (Below)

section
variable {C : Ctx} {B : Nat} {E0 E : Env} {H0 : Heap} {w0 : World} {s0 sf : St} {a : Act} {w : World} {Q : Exit → Act → World → Prop} {ops : Array Oper}

theorem first_at {α : Type} (p : α → Prop) : ∀ (l : List α), (∃ x ∈ l, p x) → ∃ pre x post, l = pre ++ x :: post ∧ p x ∧ ∀ y ∈ pre, ¬ p y
  | [], h => by obtain ⟨x, hx, _⟩ := h; simp at hx
  | x :: l, h => by
    by_cases hp : p x
    · exact ⟨[], x, l, rfl, hp, by simp⟩
    · have : ∃ y ∈ l, p y := by
        obtain ⟨y, hy, hpy⟩ := h
        rcases List.mem_cons.1 hy with rfl | hy
        · exact absurd hpy hp
        · exact ⟨y, hy, hpy⟩
      obtain ⟨pre, y, post, rfl, h1, h2⟩ := first_at p l this
      refine ⟨x :: pre, y, post, rfl, h1, fun z hz => ?_⟩
      rcases List.mem_cons.1 hz with rfl | hz
      · exact hp
      · exact h2 z hz

theorem all_listed {an : RAnn} (F : Facts C ops an) {listed : Array Bool} (hsize : listed.size = ops.size) (hr : Region.ready .any ops listed = []) : ∀ i, i < ops.size → listed.getD i true = true := by
  intro i hi
  cases hli : listed.getD i true
  · exfalso
    obtain ⟨pre, j, post, hord, hj, hpre⟩ := first_at (fun x => listed.getD x true = false) an.order ⟨i, F.all i hi, hli⟩
    obtain ⟨⟨o, h1, h2⟩, _⟩ := F.place pre j post hord
    have : j ∈ Region.ready .any ops listed := by
      refine mem_ready.2 ⟨hj, o, by simpa using h1, fun e he hb => ?_⟩
      have hm : e.on ∈ precs o := List.mem_filterMap.2 ⟨e, by simpa using he, by rw [if_pos hb]⟩
      have hmp := h2 _ hm
      obtain ⟨q1, q2, hq⟩ := List.append_of_mem hmp
      obtain ⟨⟨o2, g1, _⟩, _⟩ := F.place q1 e.on (q2 ++ j :: post) (by rw [hord, hq]; simp)
      have hlt : e.on < listed.size := by
        rw [hsize]
        have := (List.getElem?_eq_some_iff.1 g1).1
        simpa using this
      exact (either hlt).resolve_left (hpre _ hmp)
    rw [hr] at this
    simp at this
  · rfl

theorem Inv.done {an : RAnn} (hT : s0.T = []) {hs : List (Heap × Bool)} (hrun : runOrd C ops.toList an.flo an.order s0 = some (sf, hs)) {listed : Array Bool}
    (hI : Inv C B E0 H0 w0 ops an s0 sf ((s0.H, s0.esc) :: hs) listed E a w) (hall : ∀ i, i < ops.size → listed.getD i true = true) : IV C B E0 H0 w0 E sf a w := by
  obtain ⟨hsize, hdown, L1, L2, h, pl, ⟨hL, hL1, hh, hIV, _, _, _⟩, hhead⟩ := hI
  have hnil : L2 = [] := by
    cases L2 with
    | nil => rfl
    | cons x L2 =>
      exfalso
      obtain ⟨o, _, hlt⟩ := Facts.loudLt (C := C) (ops := ops) (an := an) (x := x) (by rw [hL]; simp)
      have := hall x hlt
      rw [hhead x L2 rfl] at this
      simp at this
  subst hnil
  obtain ⟨k1, k2⟩ := runOrd_len an.order s0 sf hs hrun
  have hhe : h = (sf.H, sf.esc) := by
    rw [hL, List.append_nil] at k1
    rw [k1, hh] at k2
    exact Option.some.inj k2
  subst hhe
  exact hIV.to (dst := none) (c := undef) (v := .bad) (e := false) (Res.same hIV.sr.sim trivial) rfl (by simp [stAt]) (fun t _ => by
    right
    rw [stAt_get _ _ hT, dead_false, pend_false]
    · simp
    · rintro ⟨y, o, hy, _⟩
      simp at hy
    · rintro ⟨i, o, h1, h2, _, _⟩
      rw [hall i h1] at h2
      simp at h2) (fun d hd => by simp at hd)

def open' (ops : Array Oper) (listed : Array Bool) : Nat := ((List.range ops.size).filter fun i => !listed.getD i true).length

theorem open_set {listed : Array Bool} {i : Nat} (hsize : listed.size = ops.size) (hi : i < ops.size) (hun : listed.getD i true = false) {k : Nat} (h : open' ops listed ≤ k + 1) : open' ops (listed.setIfInBounds i true) ≤ k := by
  unfold open' at *
  have key : ∀ (l : List Nat), l.Nodup → i ∈ l → ((l.filter fun j => !(listed.setIfInBounds i true).getD j true).length + 1 = (l.filter fun j => !listed.getD j true).length) := by
    have hne : ∀ j, j ≠ i → (listed.setIfInBounds i true).getD j true = listed.getD j true := fun j hj => getD_set_ne true (fun e => hj e.symm)
    have hself : (listed.setIfInBounds i true).getD i true = true := by simp [hsize, hi]
    have hno : ∀ (l : List Nat), i ∉ l → (l.filter fun j => !(listed.setIfInBounds i true).getD j true) = l.filter fun j => !listed.getD j true := fun l hl => List.filter_congr (fun j hj => by
      rw [hne j (fun e => hl (e ▸ hj))])
    intro l
    induction l with
    | nil => intro _ h; simp at h
    | cons x l ih =>
      intro hnd hm
      obtain ⟨hx, hnd⟩ := List.nodup_cons.1 hnd
      by_cases hxi : x = i
      · subst hxi
        rw [List.filter_cons, List.filter_cons, hself, hun, hno l hx]
        rfl
      · have hm' : i ∈ l := (List.mem_cons.1 hm).resolve_left (fun e => hxi e.symm)
        have := ih hnd hm'
        simp only [List.filter_cons, hne x hxi]
        split
        · simp only [List.length_cons]; omega
        · exact this
  have := key (List.range ops.size) List.nodup_range (List.mem_range.2 hi)
  omega

theorem ord_any {ro : Option Nat} (hK : Snd C B E0 w0) {an : RAnn} (F : Facts C ops an) (hT : s0.T = []) {hs : List (Heap × Bool)} (hrun : runOrd C ops.toList an.flo an.order s0 = some (sf, hs)) (hchk : chkAll C ops.toList sf ((s0.H, s0.esc) :: hs) an.chk = true)
    (hn : ∀ E' a' w', IV C B E0 H0 w0 E' sf a' w' → Q .normal a' w') : ∀ (fuel : Nat) (listed : Array Bool) (E : Env) (a : Act) (w : World), open' ops listed ≤ fuel → Inv C B E0 H0 w0 ops an s0 sf ((s0.H, s0.esc) :: hs) listed E a w →
      wpAnyIn (FW ro) 0 C.P .any ops Q fuel listed a w
  | 0, listed, E, a, w, hf, hI => by
    have hall : ∀ i, i < ops.size → listed.getD i true = true := fun i hi => by
      cases hli : listed.getD i true
      · exfalso
        unfold open' at hf
        have : i ∈ (List.range ops.size).filter fun i => !listed.getD i true := List.mem_filter.2 ⟨List.mem_range.2 hi, by rw [hli]; rfl⟩
        have hz : ((List.range ops.size).filter fun i => !listed.getD i true) = [] := List.eq_nil_of_length_eq_zero (by omega)
        rw [hz] at this
        simp at this
      · rfl
    refine ⟨List.eq_nil_iff_forall_not_mem.2 (fun i hi => ?_), hn E a w (hI.done hT hrun hall)⟩
    obtain ⟨h1, o, h2, _⟩ := mem_ready.1 hi
    rw [hall i (Array.getElem?_eq_some_iff.1 h2).1] at h1
    simp at h1
  | fuel + 1, listed, E, a, w, hf, hI => by
    refine ⟨fun hr => hn E a w (hI.done hT hrun (all_listed F hI.size hr)), fun i hi => ?_⟩
    obtain ⟨h1, o, h2, _⟩ := mem_ready.1 hi
    exact op_step hK F hT hrun hchk hI hi (fun E' a' w' hI' => ord_any hK F hT hrun hchk hn fuel _ E' a' w' (open_set hI.size (Array.getElem?_eq_some_iff.1 h2).1 h1 hf) hI')

/-- The draw itself. -/
theorem IV.drew {s : St} (h : IV C B E0 H0 w0 E s a w) : IV C B E0 H0 w0 E s a { w with drawn := w.drawn + 1 } := by
  have hbel : Below B w { w with drawn := w.drawn + 1 } := (Below.refl B w).drew
  have hcell : ∀ p, World.cell? { w with drawn := w.drawn + 1 } p = w.cell? p := fun p => rfl
  have hfrz : ∀ p, World.frozen? { w with drawn := w.drawn + 1 } p = w.frozen? p := fun p => rfl
  have hs := h.sr.sim
  refine ⟨⟨⟨hs.top, fun i bk hb => ?_, hs.dead, hs.apart, hs.imm, hs.immApart, hs.flat, hs.old, hs.mlive, hs.mdead, hs.mapart⟩, h.sr.vals, h.sr.size, h.sr.len⟩, h.tr.trans ⟨hbel, Evol.refl _ _, fun _ _ _ _ => ⟨rfl, rfl⟩, fun _ _ _ h => h, fun _ _ _ _ h => .inl h, fun _ _ h _ _ => h, fun _ _ h => h⟩, h.marks.keeps rfl (fun _ h => h), h.sub⟩
  obtain ⟨L, h1, h2, h3⟩ := hs.live i bk hb
  exact ⟨L, h1, ⟨h2.cs, h2.fits, h2.room⟩, h3⟩

/-- A region. -/
theorem region_ok {ro : Option Nat} (hK : Snd C B E0 w0) (hm : C.P.follows .mixedOrders = true) {id : Nat} {draw : Bool} (hok : codeOk C.P C.A (.region id ops draw) = true) {s s' : St} (hI : IV C B E0 H0 w0 E s a w)
    (h : runRegion C id ops draw s = some s') (hn : ∀ E' a' w', IV C B E0 H0 w0 E' s' a' w' → Q .normal a' w') : (Code.region id ops draw).wpIn (FW ro) 0 C.P Q a w := by
  have hI0 := hI.forget
  unfold runRegion at h
  cases draw with
  | false =>
    simp only [Bool.false_eq_true, if_false] at h
    refine wpIn_region ?_
    rw [List.range_eq_range']
    have := runOps_wp (Q := Q) (ro := ro) hK (ops := ops) ops.toList 0 _ E a w (fun j => by simp) hI0 h hn
    simpa using this
  | true =>
    simp only [if_true] at h
    split at h
    · rename_i an han
      simp only [Option.bind_eq_some_iff, Prod.exists] at h
      obtain ⟨sf, hs, hrun, h⟩ := h
      split at h
      · rename_i hchk
        obtain rfl := Option.some.inj h
        simp only [codeOk, han] at hok
        have F := facts hok
        have hI1 := hI0.drew
        have hrep : ∀ i, i < ops.size → (Array.replicate ops.size false).getD i true = false := fun i hi => by simp [hi]
        refine wpIn_region_any hm (ord_any hK F rfl hrun hchk hn ops.size _ E a _ ?_ ⟨by simp, fun i o hi => ?_, [], _, ({ s with T := [] }.H, { s with T := [] }.esc), fun _ => none, ⟨rfl, by simp, rfl, ?_, fun y hy hyl => ?_, fun y y' L L' _ hy => by simp at hy, fun y L hy => by simp at hy⟩, fun x r hx => ?_⟩)
        · unfold open'
          have := List.length_filter_le (fun i => !(Array.replicate ops.size false).getD i true) (List.range ops.size)
          simpa using this
        · simp at hi
          by_cases h : i < ops.size <;> simp [h] at hi
        · refine hI1.to (dst := none) (c := undef) (v := .bad) (e := false) (Res.same hI1.sr.sim trivial) rfl (by simp [stAt]) (fun t _ => ?_) (fun d hd => by simp at hd)
          rw [stAt_get _ _ rfl, pend_false]
          · right
            simp only [Bool.false_eq_true, if_false]
            cases hd : dead ops (Array.replicate ops.size false) t
            · simp only [Bool.false_eq_true, if_false]
              refine runOrd_get an.order _ sf hs hrun t (fun i _ o ho hdst => ?_)
              have hlt : i < ops.size := by
                have := (List.getElem?_eq_some_iff.1 ho).1
                simpa using this
              have : dead ops (Array.replicate ops.size false) t = true := dead_true.2 ⟨i, o, hlt, hrep i hlt, ho, hdst⟩
              rw [hd] at this; simp at this
            · simp
          · rintro ⟨y, o, _, hyl, hoy, _⟩
            have hlt : y < ops.size := by
              have := (List.getElem?_eq_some_iff.1 hoy).1
              simpa using this
            exact not_both (hrep y hlt) hyl
        · obtain ⟨o, _, hlt⟩ := Facts.loudLt hy
          exact absurd hyl (not_both (hrep y hlt))
        · obtain ⟨o, _, hlt⟩ := Facts.loudLt (C := C) (ops := ops) (an := an) (x := x) (by rw [hx]; simp)
          exact hrep x hlt
      · simp at h
    · simp at h

end
end Go.X
/-
  Blocks that nothing leads to are given up.
-/
namespace Go.X
open Go.RowKit (Below)

/-- What is kept is closed. -/
def Closed (H : Heap) (n0 : Nat) (seen todo : List Nat) : Prop :=
  ∀ i ∈ seen, ∀ bk, H.blk i = some bk → bk.flat = false → ∀ r ∈ bk.root.refs, r < n0 ∨ r ∈ seen ∨ r ∈ todo

theorem reach_ok {H : Heap} {n0 : Nat} : ∀ (k : Nat) (todo seen keep : List Nat), reach H n0 k todo seen = some keep → Closed H n0 seen todo →
    Closed H n0 keep [] ∧ (∀ i ∈ seen, i ∈ keep) ∧ ∀ i ∈ todo, i < n0 ∨ i ∈ keep
  | 0, [], seen, keep, h, hc => by
    obtain rfl : seen = keep := by simpa [reach] using h
    exact ⟨hc, fun _ h => h, by simp⟩
  | k + 1, [], seen, keep, h, hc => by
    obtain rfl : seen = keep := by simpa [reach] using h
    exact ⟨hc, fun _ h => h, by simp⟩
  | 0, i :: todo, seen, keep, h, hc => by simp [reach] at h
  | k + 1, i :: todo, seen, keep, h, hc => by
    unfold reach at h
    split at h
    · rename_i hi
      obtain ⟨h1, h2, h3⟩ := reach_ok k todo seen keep h (fun j hj bk hb hf r hr => by
        rcases hc j hj bk hb hf r hr with h | h | h
        · exact .inl h
        · exact .inr (.inl h)
        · rcases List.mem_cons.1 h with rfl | h
          · exact .inl hi
          · exact .inr (.inr h))
      exact ⟨h1, h2, fun j hj => (List.mem_cons.1 hj).elim (fun e => .inl (e ▸ hi)) (h3 j)⟩
    · split at h
      · rename_i hs
        have hs' : i ∈ seen := by simpa using hs
        obtain ⟨h1, h2, h3⟩ := reach_ok k todo seen keep h (fun j hj bk hb hf r hr => by
          rcases hc j hj bk hb hf r hr with h | h | h
          · exact .inl h
          · exact .inr (.inl h)
          · rcases List.mem_cons.1 h with rfl | h
            · exact .inr (.inl hs')
            · exact .inr (.inr h))
        exact ⟨h1, h2, fun j hj => (List.mem_cons.1 hj).elim (fun e => .inr (e ▸ h2 i hs')) (h3 j)⟩
      · split at h
        · rename_i b hb
          obtain ⟨h1, h2, h3⟩ := reach_ok k _ (i :: seen) keep h (fun j hj bk hbk hf r hr => by
            rcases List.mem_cons.1 hj with rfl | hj
            · rw [hb] at hbk
              obtain rfl := Option.some.inj hbk
              right; right
              rw [if_neg (by simp [hf])]
              exact List.mem_append.2 (.inl hr)
            · rcases hc j hj bk hbk hf r hr with h | h | h
              · exact .inl h
              · exact .inr (.inl (List.mem_cons_of_mem _ h))
              · rcases List.mem_cons.1 h with rfl | h
                · exact .inr (.inl List.mem_cons_self)
                · right; right
                  split
                  · exact h
                  · exact List.mem_append.2 (.inr h))
          refine ⟨h1, fun j hj => h2 j (List.mem_cons_of_mem _ hj), fun j hj => ?_⟩
          rcases List.mem_cons.1 hj with rfl | hj
          · exact .inr (h2 j List.mem_cons_self)
          · refine h3 j ?_
            split
            · exact hj
            · exact List.mem_append.2 (.inr hj)
        · rename_i hb
          obtain ⟨h1, h2, h3⟩ := reach_ok k todo (i :: seen) keep h (fun j hj bk hbk hf r hr => by
            rcases List.mem_cons.1 hj with rfl | hj
            · rw [hb] at hbk; simp at hbk
            · rcases hc j hj bk hbk hf r hr with h | h | h
              · exact .inl h
              · exact .inr (.inl (List.mem_cons_of_mem _ h))
              · rcases List.mem_cons.1 h with rfl | h
                · exact .inr (.inl List.mem_cons_self)
                · exact .inr (.inr h))
          refine ⟨h1, fun j hj => h2 j (List.mem_cons_of_mem _ hj), fun j hj => ?_⟩
          rcases List.mem_cons.1 hj with rfl | hj
          · exact .inr (h2 j List.mem_cons_self)
          · exact h3 j hj

theorem prune_ok {keep : List Nat} : ∀ (H : Heap) (i : Nat), (prune keep i H).length ≤ H.length ∧ (∀ j bk, (prune keep i H).raw j = some bk → H.raw j = some bk ∧ i + j ∈ keep) ∧ ∀ j, i + j ∈ keep → j < H.length → j < (prune keep i H).length
  | [], i => by simp [prune, Heap.raw]
  | b :: r, i => by
    obtain ⟨h1, h2, h3⟩ := prune_ok r (i + 1)
    unfold prune
    split
    · rename_i hnil
      split
      · rename_i hk
        have hk' : i ∈ keep := by simpa using hk
        refine ⟨by simp, fun j bk hj => ?_, fun j hj hlt => ?_⟩
        · cases j with
          | zero => exact ⟨hj, hk'⟩
          | succ j => simp [Heap.raw] at hj
        · cases j with
          | zero => simp
          | succ j =>
            have := h3 j (by rw [show i + 1 + j = i + (j + 1) by omega]; exact hj) (by simpa using hlt)
            rw [hnil] at this
            simp at this
      · rename_i hk
        refine ⟨by simp, fun j bk hj => by simp [Heap.raw] at hj, fun j hj hlt => ?_⟩
        cases j with
        | zero => exact absurd (by simpa using hj) (by simpa using hk)
        | succ j =>
          have := h3 j (by rw [show i + 1 + j = i + (j + 1) by omega]; exact hj) (by simpa using hlt)
          rw [hnil] at this
          simp at this
    · refine ⟨by simpa using h1, fun j bk hj => ?_, fun j hj hlt => ?_⟩
      · cases j with
        | zero =>
          simp only [Heap.raw, List.getElem?_cons_zero] at hj ⊢
          split at hj
          · rename_i hk
            exact ⟨hj, by simpa using hk⟩
          · simp at hj
        | succ j =>
          have := h2 j bk (by simpa [Heap.raw] using hj)
          exact ⟨by simpa [Heap.raw] using this.1, by rw [show i + (j + 1) = i + 1 + j by omega]; exact this.2⟩
      · cases j with
        | zero => simp
        | succ j =>
          have := h3 j (by rw [show i + 1 + j = i + (j + 1) by omega]; exact hj) (by simpa using hlt)
          simpa using this

/-- What a sweep gives. -/
structure Swept (H : Heap) (n0 : Nat) (roots : List Nat) (esc : Bool) (H' : Heap) : Prop where
  low : n0 ≤ H'.length
  high : H'.length ≤ H.length
  blk : ∀ i bk, H'.blk i = some bk → H.blk i = some bk
  mp : ∀ i es, H'.mp i = some es → H.mp i = some es
  root : ∀ r ∈ roots, r < H.length → r < H'.length
  young : ∀ i bk, n0 ≤ i → H'.blk i = some bk → bk.flat = false → ∀ r ∈ bk.root.refs, r < H.length → r < H'.length
  oldies : esc = true → ∀ i bk, i < n0 → H'.blk i = some bk → bk.flat = false → ∀ r ∈ bk.root.refs, r < H.length → r < H'.length

theorem sweep_ok {H : Heap} {n0 : Nat} {roots : List Nat} {esc : Bool} {H' : Heap} (hn : n0 ≤ H.length) (h : sweep H n0 roots esc = some H') : Swept H n0 roots esc H' := by
  unfold sweep at h
  split at h
  · rename_i he
    obtain rfl := Option.some.inj h
    exact ⟨by omega, Nat.le_refl _, fun _ _ h => h, fun _ _ h => h, fun _ _ h => h, fun _ _ _ _ _ _ _ h => h, fun _ _ _ _ _ _ _ _ h => h⟩
  · simp only [Option.map_eq_some_iff] at h
    obtain ⟨keep, hk, rfl⟩ := h
    obtain ⟨hcl, _, hto⟩ := reach_ok _ _ _ _ hk (fun i hi => by simp at hi)
    obtain ⟨p1, p2, p3⟩ := prune_ok (keep := keep) (H.drop n0) n0
    have hlen : (H.take n0).length = n0 := by rw [List.length_take]; omega
    have hin : ∀ r, (r < n0 ∨ r ∈ keep) → r < H.length → r < (H.take n0 ++ prune keep n0 (H.drop n0)).length := fun r hr hlt => by
      rw [List.length_append, hlen]
      rcases hr with hr | hr
      · omega
      · rcases Nat.lt_or_ge r n0 with h | h
        · omega
        · have := p3 (r - n0) (by rw [show n0 + (r - n0) = r by omega]; exact hr) (by rw [List.length_drop]; omega)
          omega
    have hraw : ∀ i, Heap.raw (H.take n0 ++ prune keep n0 (H.drop n0)) i = if i < n0 then H.raw i else (prune keep n0 (H.drop n0)).raw (i - n0) := fun i => by
      unfold Heap.raw
      rw [List.getElem?_append, hlen]
      split
      · rename_i hi; rw [List.getElem?_take, if_pos hi]
      · rfl
    have hstay : ∀ i bk, Heap.raw (H.take n0 ++ prune keep n0 (H.drop n0)) i = some bk → H.raw i = some bk := fun i bk hi => by
      rw [hraw] at hi
      split at hi
      · exact hi
      · rename_i hni
        have := (p2 _ bk hi).1
        unfold Heap.raw at this ⊢
        rwa [List.getElem?_drop, show n0 + (i - n0) = i by omega] at this
    refine ⟨by rw [List.length_append, hlen]; omega, by rw [List.length_append, hlen]; rw [List.length_drop] at p1; omega, fun i bk hi => ?_, fun i es hi => ?_, fun r hr hlt => ?_, fun i bk hni hi hf r hr hlt => ?_, fun hesc i bk hni hi hf r hr hlt => ?_⟩
    · obtain ⟨h1, h2⟩ := raw_blk.1 hi
      exact raw_blk.2 ⟨hstay i bk h1, h2⟩
    · unfold Heap.mp at hi ⊢
      cases hx : ((H.take n0 ++ prune keep n0 (H.drop n0))[i]?).bind id with
      | none => rw [hx] at hi; cases hi
      | some bk =>
        have h2 := hstay i bk hx
        unfold Heap.raw at h2
        rw [hx] at hi
        rw [h2]
        exact hi
    · exact hin r (hto r (List.mem_append.2 (.inl hr))) hlt
    · obtain ⟨hi1, hi2⟩ := raw_blk.1 hi
      rw [hraw, if_neg (by omega)] at hi1
      obtain ⟨q1, q2⟩ := p2 _ bk hi1
      rw [show n0 + (i - n0) = i by omega] at q2
      have hb : H.blk i = some bk := by
        refine raw_blk.2 ⟨?_, hi2⟩
        unfold Heap.raw at q1 ⊢
        rwa [List.getElem?_drop, show n0 + (i - n0) = i by omega] at q1
      rcases hcl i q2 bk hb hf r hr with h | h | h
      · exact hin r (.inl h) hlt
      · exact hin r (.inr h) hlt
      · simp at h
    · have hi := (raw_blk.1 hi).1
      rw [hraw, if_pos hni] at hi
      refine hin r (hto r (List.mem_append.2 (.inr ?_))) hlt
      rw [if_pos hesc]
      unfold oldRefs
      refine List.mem_flatMap.2 ⟨some bk, ?_, by simp [hf, hr]⟩
      unfold Heap.raw at hi
      have hlt' : i < H.length := by omega
      rw [List.getElem?_eq_getElem hlt'] at hi
      have hi : H[i] = some bk := hi
      rw [← hi]
      refine List.mem_iff_getElem?.2 ⟨i, ?_⟩
      rw [List.getElem?_take, if_pos hni, List.getElem?_eq_getElem hlt']

theorem sweepA_ok {A : FAnn} {H : Heap} {n0 : Nat} {roots : List Nat} {esc : Bool} {H' : Heap} (hn : n0 ≤ H.length) (h : sweepA A H n0 roots esc = some H') : Swept H n0 roots esc H' := by
  unfold sweepA at h
  split at h
  · obtain rfl := Option.some.inj h
    exact ⟨hn, Nat.le_refl _, fun _ _ h => h, fun _ _ h => h, fun _ _ h => h, fun _ _ _ _ _ _ _ h => h, fun _ _ _ _ _ _ _ _ h => h⟩
  · exact sweep_ok hn h

section
variable {C : Ctx} {B : Nat} {E0 E : Env} {H0 : Heap} {w0 : World} {s : St} {a : Act} {w : World}

def Env.cut (E : Env) (H : Heap) : Env := ⟨fun i => if (H.blk i).isSome then E.loc i else none, E.m, H.length, fun i => if (H.mp i).isSome then E.mloc i else none, E.yl⟩

/-- A sweep's memory stands for the same world. -/
theorem swept_sim {n0 : Nat} {H H' : Heap} {roots : List Nat} {esc : Bool} (hs : Sim B E H w) (hsw : Swept H n0 roots esc H') (h0 : ∀ i bk r, H0.blk i = some bk → r ∈ bk.root.refs → r < n0) (hsub : esc = false → Sub n0 H0 H) :
    Sim B (E.cut H') H' w ∧ ∀ k, Tr B k E w (E.cut H') w := by
  refine hs.less rfl (fun i bk hi => ⟨hsw.blk i bk hi, fun r hr => ?_⟩) (fun i => rfl) hsw.mp (fun i => rfl) (fun _ _ _ h => h) (fun b o c hc => ⟨hs.imm b o c hc, fun hin => hs.immApart b o c hc ?_⟩) (fun _ _ _ h => .inl h)
  · have hb := hsw.blk i bk hi
    have hflat : bk.flat = false := by
      cases hf : bk.flat
      · rfl
      · rw [hs.flat i bk hb hf] at hr; simp at hr
    have hlt : r < H.length := by
      obtain ⟨L, h1, h2, h3⟩ := hs.live i bk hb
      rw [← hs.top]
      exact h2.refs_lt r hr
    show r < H'.length
    rcases Nat.lt_or_ge i n0 with hin | hin
    · cases he : esc
      · obtain ⟨b0, g1, g2⟩ := hsub he i hin bk hb
        have := h0 i b0 r g1 (g2 r hr)
        have := hsw.low
        omega
      · exact hsw.oldies he i bk hin hi hflat r hr hlt
    · exact hsw.young i bk hin hi hflat r hr hlt
  · obtain ⟨i, L, hi, hh⟩ := hin
    simp only [Env.cut] at hi
    split at hi
    · exact ⟨i, L, hi, hh⟩
    · simp at hi

theorem VR.evol {E E' : Env} {k : Nat} (he : Evol k E E') (hk : k ≤ E'.top) {v : AV} {c : Value} (h : VR E v c) (hr : ∀ r ∈ v.refs, r < k) : VR E' v c := by
  have key : ∀ {v : AV} {c : Value}, PR E v c → (∀ r ∈ v.refs, r < k) → PR E' v c := fun {v c} h hr => by
    obtain ⟨cs, h1, h2⟩ := h
    exact ⟨cs, h1.evol he hk (by simpa [refsL] using hr), h2⟩
  cases v with
  | bad => trivial
  | undf => exact h
  | yld => exact (show c = _ from h).trans (by rw [he.yl])
  | tuple vs =>
    obtain ⟨cvs, h1, h2, h3⟩ := h
    refine ⟨cvs, h1, h2, fun i v c hv hc => (h3 i v c hv hc).imp id (fun hp => key hp (fun r hr' => hr r ?_))⟩
    simp only [AV.refs]
    exact mem_refsL (List.mem_of_getElem? hv) hr'
  | _ => exact key (show PR E _ c from h) hr

theorem VR.refs_lt {E : Env} {v : AV} {c : Value} (h : VR E v c) : ∀ r ∈ v.refs, r < E.top := by
  have key : ∀ {v : AV} {c : Value}, PR E v c → ∀ r ∈ v.refs, r < E.top := fun {v c} h r hr => by
    obtain ⟨cs, h1, _⟩ := h
    exact h1.refs_lt r (by simpa [refsL] using hr)
  cases v with
  | bad => intro r hr; simp [AV.refs] at hr
  | undf => intro r hr; simp [AV.refs] at hr
  | yld => intro r hr; simp [AV.refs] at hr
  | tuple vs =>
    obtain ⟨cvs, h1, h2, h3⟩ := h
    intro r hr
    simp only [AV.refs] at hr
    have : ∃ v ∈ vs, r ∈ v.refs := by
      clear h3 h2
      induction vs with
      | nil => simp [refsL] at hr
      | cons x vs ih =>
        simp only [refsL, List.mem_append] at hr
        rcases hr with hr | hr
        · exact ⟨x, List.mem_cons_self, hr⟩
        · obtain ⟨v, hv, hr⟩ := ih hr
          exact ⟨v, List.mem_cons_of_mem _ hv, hr⟩
    obtain ⟨v, hv, hr⟩ := this
    obtain ⟨i, hi, hvi⟩ := List.getElem_of_mem hv
    have hci : cvs[i]? = some cvs[i] := List.getElem?_eq_getElem (by omega)
    rcases h3 i v _ (by rw [List.getElem?_eq_getElem hi, hvi]) hci with rfl | hp
    · simp [AV.refs] at hr
    · exact key hp r hr
  | _ => exact key (show PR E _ c from h)

theorem look_mask (m : Nat) (t : Nat) : ∀ (l : List (Nat × AV)), look (maskL m l) t = if m.testBit t then look l t else .bad
  | [] => by simp [maskL, look]
  | (k, v) :: l => by
    have ih := look_mask m t l
    unfold maskL at ih ⊢
    simp only [List.map_cons]
    by_cases hk : k = t
    · subst hk
      by_cases hm : m.testBit k <;> simp [look, hm]
    · by_cases hm : m.testBit k <;> simp [look, hm, hk, ih]

theorem look_roots (t : Nat) : ∀ (l : List (Nat × AV)), ∀ r ∈ (look l t).refs, r ∈ rootsL l
  | [], r, hr => by simp [look, AV.refs] at hr
  | (k, v) :: l, r, hr => by
    simp only [look] at hr
    split at hr
    · exact List.mem_flatMap.2 ⟨_, List.mem_cons_self, hr⟩
    · have := look_roots t l r hr
      obtain ⟨x, hx, hr⟩ := List.mem_flatMap.1 this
      exact List.mem_flatMap.2 ⟨x, List.mem_cons_of_mem _ hx, hr⟩

theorem look_ren (g : Nat → Nat) (t : Nat) : ∀ (l : List (Nat × AV)), look (l.map fun x => (x.1, x.2.ren g)) t = (look l t).ren g
  | [] => rfl
  | (k, v) :: l => by
    have ih := look_ren g t l
    simp only [List.map_cons, look]
    split
    · rfl
    · exact ih
theorem reach_nd {H : Heap} {n0 : Nat} : ∀ (k : Nat) (todo seen keep : List Nat), reach H n0 k todo seen = some keep → (∀ i ∈ seen, n0 ≤ i) → seen.Nodup → (∀ i ∈ keep, n0 ≤ i) ∧ keep.Nodup
  | 0, [], seen, keep, h, hs, hn => by
    obtain rfl : seen = keep := by simpa [reach] using h
    exact ⟨hs, hn⟩
  | k + 1, [], seen, keep, h, hs, hn => by
    obtain rfl : seen = keep := by simpa [reach] using h
    exact ⟨hs, hn⟩
  | 0, i :: todo, seen, keep, h, _, _ => by simp [reach] at h
  | k + 1, i :: todo, seen, keep, h, hs, hn => by
    unfold reach at h
    split at h
    · exact reach_nd k todo seen keep h hs hn
    · rename_i hlt
      split at h
      · exact reach_nd k todo seen keep h hs hn
      · rename_i hc
        have hi : i ∉ seen := by simpa using hc
        have hs' : ∀ j ∈ i :: seen, n0 ≤ j := fun j hj => by
          rcases List.mem_cons.1 hj with rfl | hj
          · omega
          · exact hs j hj
        have hn' : (i :: seen).Nodup := List.nodup_cons.2 ⟨hi, hn⟩
        split at h
        · exact reach_nd k _ (i :: seen) keep h hs' hn'
        · exact reach_nd k todo (i :: seen) keep h hs' hn'
theorem oldRefs_mem {H : Heap} {n0 i : Nat} {bk : Blk} (hi : i < n0) (hb : H.blk i = some bk) (hf : bk.flat = false) {r : Nat} (hr : r ∈ bk.root.refs) : r ∈ oldRefs H n0 := by
  have h1 := (raw_blk.1 hb).1
  unfold Heap.raw at h1
  refine List.mem_flatMap.2 ⟨some bk, ?_, by simpa [hf] using hr⟩
  cases hx : H[i]? with
  | none => rw [hx] at h1; cases h1
  | some x =>
    rw [hx] at h1
    simp only [Option.bind_some, id_eq] at h1
    subst h1
    refine List.mem_of_getElem? (i := i) ?_
    rw [List.getElem?_take, if_pos hi]
    exact hx
theorem cmp_ok {s1 : St} (hI : IV C B E0 H0 w0 E s a w) (h0 : ∀ i bk r, H0.blk i = some bk → r ∈ bk.root.refs → r < C.n0) (hT : s.T = []) (h : cmpSt C.n0 s = some s1) : ∃ E1, IV C B E0 H0 w0 E1 s1 a w := by
  unfold cmpSt at h
  simp only [Option.map_eq_some_iff] at h
  obtain ⟨keep, hk, rfl⟩ := h
  have hs := hI.sr.sim
  have hblk : ∀ i bk, s.H.blk i = some bk → ∀ r ∈ bk.root.refs, r < s.H.length := fun i bk hb r hr => by
    obtain ⟨L, _, k2, _⟩ := hs.live i bk hb
    rw [← hs.top]
    exact k2.refs_lt r hr
  have hval : ∀ t, C.A.exp.testBit t = true → VR E (look s.L t) (a.tmps.getD t undef) := fun t ht => by
    have := hI.sr.vals t
    unfold St.get at this
    rwa [if_pos ht] at this
  obtain ⟨k1, _, k3⟩ := reach_ok _ _ _ _ hk (fun i hi => by simp at hi)
  obtain ⟨k4, k5⟩ := reach_nd _ _ _ _ hk (by simp) List.nodup_nil
  generalize hp : newOrd s.H C.n0 keep = p
  have hmem : ∀ i, i ∈ p ↔ i < C.n0 ∨ (i ∈ keep ∧ i < s.H.length) := fun i => by
    rw [← hp]
    simp [newOrd]
  have hlow : ∀ i, i < C.n0 → p[i]? = some i := fun i hi => by
    rw [← hp]
    unfold newOrd
    rw [List.getElem?_append_left (by simpa using hi)]
    simp [hi]
  have hnd : p.Nodup := by
    rw [← hp]
    unfold newOrd
    rw [List.nodup_append]
    refine ⟨List.nodup_range, ?_, fun x hx y hy he => ?_⟩
    · rw [List.Nodup, List.pairwise_reverse]
      exact (k5.filter _).imp Ne.symm
    · subst he
      have h1 : x < C.n0 := by simpa using hx
      have h2 : x ∈ keep := by
        simp only [List.mem_reverse, List.mem_filter] at hy
        exact hy.1
      have := k4 x h2
      omega
  have hold : ∀ i bk, i < C.n0 → s.H.blk i = some bk → bk.flat = false → ∀ r ∈ bk.root.refs, r ∈ p := fun i bk hi hb hf r hr => by
    rw [hmem]
    cases he : s.esc with
    | false =>
      obtain ⟨b0, g1, g2⟩ := hI.sub he i hi bk hb
      exact .inl (h0 i b0 r g1 (g2 r hr))
    | true =>
      have := k3 r (List.mem_append.2 (.inr (by rw [if_pos he]; exact oldRefs_mem hi hb hf hr)))
      rcases this with h | h
      · exact .inl h
      · exact .inr ⟨h, hblk i bk hb r hr⟩
  have hpc : Piece s.H p := ⟨hnd, fun i hi => by
    rcases (hmem i).1 hi with h | h
    · exact Nat.lt_of_lt_of_le h hI.sr.len
    · exact h.2, fun i hi bk hb hf r hr => by
    rcases (hmem i).1 hi with h | h
    · exact hold i bk h hb hf r hr
    · rw [hmem]
      rcases k1 i h.1 bk hb hf r hr with h | h | h
      · exact .inl h
      · exact .inr ⟨h, hblk i bk hb r hr⟩
      · simp at h⟩
  have hsim := hs.piece hpc
  refine ⟨E.piece p, ⟨hsim, fun t => ?_, hI.sr.size, ?_⟩, hI.tr.trans ⟨Below.refl _ _, ⟨fun i hi L' hL' => ⟨L', ?_, .inl rfl⟩, fun _ _ _ h => h, fun i hi b hb => ?_, rfl⟩, fun _ _ _ _ => ⟨rfl, rfl⟩, fun b o _ hin => ?_, fun _ _ _ _ h => .inl h, fun _ _ h _ _ => h, fun j _ hm => ?_⟩, hI.marks, fun he i hi bk hb => ?_⟩
  · unfold St.get
    split
    · rename_i ht
      have hv := hval t ht
      simp only
      rw [look_ren]
      refine VR.ren (E := E) (E' := E.piece p) (fun _ _ _ h => h) rfl hv (fun r hr => good_piece ?_)
      rw [hmem]
      have hlt : r < s.H.length := by rw [← hs.top]; exact hv.refs_lt r hr
      rcases k3 r (List.mem_append.2 (.inl (look_roots t s.L r hr))) with h | h
      · exact .inl h
      · exact .inr ⟨h, hlt⟩
    · simp only [hT]
      trivial
  · simp only [pieceH, List.length_map]
    rw [← hp]
    simp [newOrd]
  · simpa [Env.piece, hlow i hi] using hL'
  · simpa [Env.piece, hlow i hi] using hb
  · obtain ⟨i, _, L, h1, h2⟩ := inE_piece hin
    exact ⟨i, L, h1, h2⟩
  · obtain ⟨i, _, h1⟩ := inM_piece hm
    exact ⟨i, h1⟩
  · simp only at hb
    rw [pieceH_blk, hlow i hi, Option.bind_some, Option.map_eq_some_iff] at hb
    obtain ⟨bk0, g1, rfl⟩ := hb
    obtain ⟨b0, g2, g3⟩ := hI.sub he i hi bk0 g1
    refine ⟨b0, g2, fun x hx => ?_⟩
    rw [renBk_refs _ _ (hs.flat i bk0 g1), List.mem_map] at hx
    obtain ⟨r, hr, rfl⟩ := hx
    have hlt := h0 i b0 r g2 (g3 r hr)
    rw [idx_of hnd (hlow r hlt)]
    exact g3 r hr
theorem head0_ok {m : Nat} {H' : Heap} (hI : IV C B E0 H0 w0 E s a w) (h0 : ∀ i bk r, H0.blk i = some bk → r ∈ bk.root.refs → r < C.n0) (hsw : sweep s.H C.n0 (rootsL (maskL m s.L)) s.esc = some H') : ∃ E1, IV C B E0 H0 w0 E1 { s with L := maskL m s.L, T := [], H := H' } a w := by
  have hS := sweep_ok hI.sr.len hsw
  have hs := hI.sr.sim
  obtain ⟨k1, k2⟩ := swept_sim hs hS h0 hI.sub
  refine ⟨E.cut H', ⟨k1, fun t => ?_, hI.sr.size, hS.low⟩, hI.tr.trans (k2 _), hI.marks, fun he i hi bk hb => hI.sub he i hi bk (hS.blk i bk hb)⟩
  have hv := hI.sr.vals t
  unfold St.get at hv ⊢
  split
  · rename_i hexp
    simp only [hexp, if_true] at hv
    have hr : ∀ r ∈ (look (maskL m s.L) t).refs, r < H'.length := fun r hr => by
      refine hS.root r (look_roots t _ r hr) ?_
      rw [look_mask] at hr
      split at hr
      · rw [← hs.top]; exact hv.refs_lt r hr
      · simp [AV.refs] at hr
    have hv' : VR E (look (maskL m s.L) t) (a.tmps.getD t undef) := by
      rw [look_mask]
      split
      · exact hv
      · trivial
    exact hv'.evol (k2 _).evol (Nat.le_refl _) hr
  · trivial

theorem mask_ok {m : Nat} (hI : IV C B E0 H0 w0 E s a w) : IV C B E0 H0 w0 E { s with L := maskL m s.L, T := [] } a w := by
  refine ⟨⟨hI.sr.sim, fun t => ?_, hI.sr.size, hI.sr.len⟩, hI.tr, hI.marks, hI.sub⟩
  have hv := hI.sr.vals t
  unfold St.get at hv ⊢
  split
  · rename_i hexp
    simp only [hexp, if_true] at hv
    simp only
    rw [look_mask]
    split
    · exact hv
    · trivial
  · trivial
theorem head_ok {m : Nat} {s1 : St} (hI : IV C B E0 H0 w0 E s a w) (h0 : ∀ i bk r, H0.blk i = some bk → r ∈ bk.root.refs → r < C.n0) (h : headSt C m s = some s1) : ∃ E1, IV C B E0 H0 w0 E1 s1 a w := by
  unfold headSt at h
  simp only at h
  split at h
  · obtain rfl := Option.some.inj h
    have h1 := mask_ok (m := m) hI
    exact ⟨E, ⟨h1.sr.sim, h1.sr.vals, h1.sr.size, h1.sr.len⟩, h1.tr, h1.marks, fun he => by cases he⟩
  simp only [Option.bind_eq_some_iff, Option.map_eq_some_iff] at h
  obtain ⟨s2, ⟨H', hsw, rfl⟩, h⟩ := h
  obtain ⟨E1, h1⟩ := head0_ok hI h0 hsw
  split at h
  · exact cmp_ok h1 h0 rfl h
  · obtain rfl := Option.some.inj h
    exact ⟨E1, h1⟩

end
end Go.X
/-
  A range over an iterator: what the evaluator tells is what the model does.
-/
namespace Go.X
open Go.RowKit (Below)

def Ex.out : Ex → Exit
  | .normal => .normal
  | .exit id => .exit id
  | .ret => .ret

/-- What is to be shown of code. -/
def CodeOk (fuel B : Nat) (c : Code) : Prop :=
  ∀ (C : Ctx) (ro : Option Nat) (E0 : Env) (H0 : Heap) (w0 : World) (cur : Nat) (s : St) (x : Ex) (s' : St) (E : Env) (a : Act) (w : World) (Q : Exit → Act → World → Prop),
    C.P.follows .mixedOrders = true → Snd C B E0 w0 → (∀ i bk r, H0.blk i = some bk → r ∈ bk.root.refs → r < C.n0) → (ro = none ∨ C.Rg = noR) → codeOk C.P C.A c = true → IV C B E0 H0 w0 E s a w →
    evalC C fuel cur c s = some (x, s') → (∀ E' a' w', IV C B E0 H0 w0 E' s' a' w' → Q x.out a' w') → c.wpIn (FW ro) 0 C.P Q a w

theorem unY_ne (v : AV) : unY v ≠ .yld := by cases v <;> simp [unY]

theorem VR.unY {E : Env} {v : AV} {c : Value} (h : VR E v c) : VR E (unY v) c := by
  cases v <;> first | exact h | trivial

theorem look_unY : ∀ (l : List (Nat × AV)) (t : Nat), look (l.map fun x => (x.1, unY x.2)) t = unY (look l t)
  | [], t => rfl
  | (k, v) :: l, t => by
    simp only [List.map_cons, look]
    split
    · rfl
    · exact look_unY l t

theorem FR.no_yld {E : Env} {vs : List AV} {cs : List Value} (h : FR E vs cs) : ∀ (i : Nat) (v : AV), vs[i]? = some v → v ≠ AV.yld := by
  rintro i v hi rfl
  obtain ⟨pre, mid, post, _, _, hm, _⟩ := h.nth hi
  cases hm

/-- What lies at l is no cells: turned at both ends. -/
theorem Tr.put2 {B k : Nat} {E E' : Env} {w w' : World} (h : Tr B k E w E' w') {l : Nat} {o1 o2 ob : Obj} (hB : B ≤ l) (h1 : w.heap[l]? = some o1) (h2 : w'.heap[l]? = some o2) (c1 : o1.isCells = false) (c2 : o2.isCells = false) (cb : ob.isCells = false) :
    Tr B k E (w.putObj l ob) E' (w'.putObj l ob) := by
  have hlt := (Array.getElem?_eq_some_iff.1 h1).1
  have hlt' := (Array.getElem?_eq_some_iff.1 h2).1
  refine ⟨⟨h.below.os, h.below.tape, h.below.output, by simpa using h.below.size, fun j hj => ?_⟩, h.evol, fun b o hb hn => ?_, fun b o hb hi => h.ext b o (by simpa using hb) hi, fun b o c hb hi => h.imm b o c (by simpa using hb) hi, fun j o hj hn hm => ?_, fun j hj hm => h.extM j (by simpa using hj) hm⟩
  · have hne : j ≠ l := by omega
    rw [World.putObj_heap_other hne, World.putObj_heap_other hne]
    exact h.below.block j hj
  · obtain ⟨k1, k2⟩ := putObj_cell h1 c1 cb b o
    obtain ⟨g1, g2⟩ := putObj_cell h2 c2 cb b o
    obtain ⟨f1, f2⟩ := h.frame b o (by simpa using hb) hn
    exact ⟨g1.trans (f1.trans k1.symm), g2.trans (f2.trans k2.symm)⟩
  · by_cases hjl : j = l
    · subst hjl
      rw [World.putObj_heap_same hlt] at hj
      rw [World.putObj_heap_same hlt']
      exact hj
    · rw [World.putObj_heap_other hjl] at hj ⊢
      exact h.objs j o hj hn hm

theorem put_put (w : World) (l : Nat) (o1 o2 : Obj) : (w.putObj l o1).putObj l o2 = w.putObj l o2 := by
  simp [World.putObj]

theorem put_back {w : World} {l : Nat} {o ob : Obj} (h : w.heap[l]? = some o) : (w.putObj l ob).putObj l o = w := by
  rw [put_put]
  unfold World.putObj
  have : w.heap.setIfInBounds l o = w.heap := by
    obtain ⟨hlt, he⟩ := Array.getElem?_eq_some_iff.1 h
    apply Array.ext
    · simp
    · intro i h1 h2
      by_cases hi : i = l
      · subst hi
        simp [he]
      · rw [Array.getElem_setIfInBounds_ne (by simpa using h1) (fun e => hi e.symm)]
  rw [this]

section
variable {C : Ctx} {B : Nat}

theorem round_begin (n0 : Nat) {E : Env} {w : World} : ∀ (l : List (Nat × AV)) (cl : List (Nat × Value)) (st : St) (ts : Array Value), l.length = cl.length → (∀ (i : Nat) (x : Nat × AV) (y : Nat × Value), l[i]? = some x → cl[i]? = some y → x.1 = y.1 ∧ VR E x.2 y.2) →
    SR (roundC C n0) B E st { tmps := ts, defers := [] } w →
    SR (roundC C n0) B E (l.foldl (fun st q => st.set C.A q.1 (if q.1 < C.N then unY q.2 else .bad)) st) { tmps := cl.foldl (fun ts q => ts.setIfInBounds q.1 q.2) ts, defers := [] } w
  | [], [], st, ts, _, _, h => h
  | (d, v) :: l, (d', c) :: cl, st, ts, hl, hv, h => by
    obtain ⟨h1, h2⟩ := hv 0 _ _ rfl rfl
    simp only at h1 h2
    subst h1
    refine round_begin n0 l cl _ _ (by simpa using hl) (fun i x y hx hy => hv (i + 1) x y (by simpa using hx) (by simpa using hy)) ?_
    show SR (roundC C n0) B E (st.set C.A d (if d < C.N then unY v else .bad)) { tmps := ts.setIfInBounds d c, defers := [] } w
    by_cases hd : d < C.N
    · rw [if_pos hd]
      exact h.set (d := d) (v := unY v) (c := c) h2.unY (.inl hd)
    · rw [if_neg hd]
      exact h.set (d := d) (v := .bad) (c := c) trivial (.inr (.inl rfl))
  | [], _ :: _, _, _, hl, _, _ => by simp at hl
  | _ :: _, [], _, _, hl, _, _ => by simp at hl

variable {E0 E : Env} {H0 : Heap} {w0 : World} {s : St} {a : Act} {w : World}

/-- The rounds keep what they were told to. -/
theorem rounds_ok {fuel : Nat} {ca cb : Code} (iha : CodeOk fuel B ca) (ihb : CodeOk fuel B cb) (hm : C.P.follows .mixedOrders = true) (hK : Snd C B E0 w0) (hoa : codeOk C.P C.A ca = true) (hob : codeOk C.P C.A cb = true)
    (hI : IV C B E0 H0 w0 E s a w) {ps : Array Tmp} {rec : Loop} {W1 : World} {l : Nat} (hBl : B ≤ l) (hrec : W1.heap[l]? = some (.loop rec)) (hst : rec.state = .ready) (hpe : rec.pending = none) (htm : rec.tmps = a.tmps) (hps : rec.params = ps) (hra : rec.assign = ca) (hrb : rec.body = cb)
    (hsim : Sim B (E.as l) s.H W1) : YOk C.P B (roundY C ps.toList s (fun C' s' => evalC C' fuel 0 ca s') (fun C' s' => evalC C' fuel 0 cb s')) s.H.length (E.as l) W1 := by
  intro args H1 H1' e1 hY E1 w1 cargs hTr hS hn1 hlen hv
  have hyl : E1.yl = l := hTr.evol.yl
  have hrec1 : w1.heap[l]? = some (.loop rec) := hTr.objs l _ hrec rfl (no_inM hsim hrec rfl)
  unfold roundY at hY
  split at hY
  · rename_i hpl
    simp only [Option.bind_eq_some_iff, Prod.exists] at hY
    obtain ⟨x1, s1, ha, hY⟩ := hY
    cases x1 with
    | exit i => simp at hY
    | ret => simp at hY
    | normal =>
    simp only [Option.bind_eq_some_iff, Prod.exists] at hY
    obtain ⟨x2, s2, hb, hY⟩ := hY
    cases x2 with
    | exit i => simp at hY
    | ret => simp at hY
    | normal =>
    simp only [Option.map_eq_some_iff, Prod.mk.injEq] at hY
    obtain ⟨H2, hsw, rfl, rfl⟩ := hY
    have hy := run_yield (P := C.P) (args := cargs.toArray) hrec1 (by rw [hps]; simpa [← hlen] using hpl)
    rw [hyl]
    refine ⟨_, _, _, _, hy, ?_⟩
    -- what the round begins with
    have hbase : SR (roundC C H1.length) B E1 ⟨s.L.map fun x => (x.1, unY x.2), [], H1, false⟩ { tmps := a.tmps, defers := [] } w1 := by
      refine ⟨hS, fun t => ?_, hI.sr.size, Nat.le_refl _⟩
      have hvt := hI.sr.vals t
      unfold St.get at hvt ⊢
      show VR E1 (if C.A.exp.testBit t then look (s.L.map fun x => (x.1, unY x.2)) t else look [] t) _
      split
      · rename_i hx
        rw [if_pos hx] at hvt
        rw [look_unY]
        have h1 := hvt.unY.as (l := l) (unY_ne _)
        refine h1.later ?_ ?_
        · have : (E.as l).top = s.H.length := hI.sr.sim.top
          rw [this]
          exact hTr.evol
        · have h2 : E1.top = H1.length := hS.top
          have h3 : (E.as l).top = s.H.length := hI.sr.sim.top
          omega
      · trivial
    have hstart : SR (roundC C H1.length) B E1 (roundSt C ps.toList s args H1) { tmps := (rec.params.zip cargs.toArray).foldl (fun tmps (t, a) => tmps.setIfInBounds t a) rec.tmps, defers := [] } w1 := by
      have h1 := round_begin (C := C) (B := B) H1.length (ps.toList.zip args) (ps.toList.zip cargs) _ a.tmps (by simp [hlen]) (fun i x y hx hy => by
        rw [List.getElem?_zip_eq_some] at hx hy
        refine ⟨?_, hv i _ _ hx.2 hy.2⟩
        have := hx.1.symm.trans hy.1
        exact Option.some.inj this) hbase
      have h2 : (rec.params.zip cargs.toArray).foldl (fun tmps (t, a) => tmps.setIfInBounds t a) rec.tmps = (ps.toList.zip cargs).foldl (fun ts q => ts.setIfInBounds q.1 q.2) a.tmps := by
        rw [hps, htm, ← Array.foldl_toList]
        simp
      rw [h2]
      exact h1
    have hI1 : IV (roundC C H1.length) B E1 H1 w1 E1 (roundSt C ps.toList s args H1) { tmps := (rec.params.zip cargs.toArray).foldl (fun tmps (t, a) => tmps.setIfInBounds t a) rec.tmps, defers := [] } w1 := by
      have hH : (roundSt C ps.toList s args H1).H = H1 := by
        have key : ∀ (q : List (Nat × AV)) (st : St), (q.foldl (fun st q => st.set C.A q.1 (if q.1 < C.N then unY q.2 else .bad)) st).H = st.H := fun q => by
          induction q with
          | nil => intro st; rfl
          | cons x q ih => intro st; rw [List.foldl_cons, ih, St.set_H]
        exact key _ _
      exact ⟨hstart, Tr.refl _ _ _ _, Marks.nil, fun _ => by rw [hH]; exact Sub.refl _ _⟩
    have hG1 : GlobOk C.U.G E1 := ((hK.g.evol hI.tr.evol).as (l := l)).evol hTr.evol
    have hsnd : ∀ w', Snd (roundC C H1.length) B E1 w' := fun w' => ⟨hK.k, hK.x, hG1, YOk.no, RgSound.no⟩
    have h0 : ∀ i bk r, H1.blk i = some bk → r ∈ bk.root.refs → r < (roundC C H1.length).n0 := fun i bk r hi hr => by
      obtain ⟨L, _, h2, _⟩ := hS.live i bk hi
      have := h2.refs_lt r hr
      rw [hS.top] at this
      exact this
    have hBw : B ≤ w1.heap.size := hS.old
    rw [hra, hrb]
    refine roundIn_of_wpIn trivial ?_
    refine iha (roundC C H1.length) (some l) E1 H1 w1 0 _ .normal s1 E1 _ w1 _ hm (hsnd _) h0 (.inr rfl) hoa hI1 ha (fun E2 a2 w2 hI2 => ?_)
    have hrec2 : w2.heap[l]? = some (.loop rec) := hI2.tr.objs l _ hrec1 rfl (no_inM hS hrec1 rfl)
    refine ⟨_, run_beginRound hrec2 hst, ?_⟩
    have hlt1 := (Array.getElem?_eq_some_iff.1 hrec1).1
    have hlt2 := (Array.getElem?_eq_some_iff.1 hrec2).1
    have hI3 : IV (roundC C H1.length) B E1 H1 (w1.putObj l (.loop { rec with state := .busy })) E2 s1 a2 (w2.putObj l (.loop { rec with state := .busy })) := by
      refine ⟨⟨hI2.sr.sim.other (Other.put hrec2 rfl rfl rfl), hI2.sr.vals, hI2.sr.size, hI2.sr.len⟩, hI2.tr.put2 hBl hrec1 hrec2 rfl rfl rfl, ⟨hI2.marks.1, fun d hd => ?_⟩, hI2.sub⟩
      obtain ⟨D, k1, k2, k3⟩ := hI2.marks.2 d hd
      have hne : D ≠ l := by
        rintro rfl
        rw [hrec2] at k3
        cases k3
      exact ⟨D, k1, by simpa using k2, (World.putObj_heap_other hne).trans k3⟩
    refine ihb (roundC C H1.length) (some l) E1 H1 (w1.putObj l (.loop { rec with state := .busy })) 0 _ .normal s2 E2 _ _ _ hm (hsnd _) h0 (.inr rfl) hob hI3 hb (fun E4 a4 w4 hI4 => ?_)
    have hbusy1 : (w1.putObj l (.loop { rec with state := .busy })).heap[l]? = some (.loop { rec with state := .busy }) := World.putObj_heap_same hlt1
    have hS1b : Sim B E1 H1 (w1.putObj l (.loop { rec with state := .busy })) := hS.other (Other.put hrec1 rfl rfl rfl)
    have hrec4 : w4.heap[l]? = some (.loop { rec with state := .busy }) := hI4.tr.objs l _ hbusy1 rfl (no_inM hS1b hbusy1 rfl)
    have hend := run_endRound (P := C.P) none hrec4
    have hsame : ({ { rec with state := .busy } with state := if (none : Option Code).isNone then .ready else .done, pending := none } : Loop) = rec := by
      rcases rec with ⟨st, pe, f, t, p, asl, bd, df⟩
      simp only at hst hpe
      subst hst hpe
      rfl
    rw [hsame] at hend
    refine ⟨_, _, hend, rfl, ?_⟩
    have hSw := sweep_ok (n0 := H1.length) hI4.sr.len hsw
    obtain ⟨k1, k2⟩ := swept_sim hI4.sr.sim hSw h0 hI4.sub
    have hT := (hI4.tr.trans (k2 _)).put2 (ob := .loop rec) hBl hbusy1 hrec4 rfl rfl rfl
    rw [put_back hrec1] at hT
    exact ⟨E4.cut H2, k1.other (Other.put hrec4 rfl rfl rfl), VR.bool, hT, hSw.low, fun he i hi bk hbk => hI4.sub he i hi bk (hSw.blk i bk hbk)⟩
  · simp at hY


theorem range_ok {fuel : Nat} {g : Operand} {ps : Array Tmp} {ca cb : Code} (iha : CodeOk fuel B ca) (ihb : CodeOk fuel B cb) : CodeOk fuel B (.rangeFunc g ps ca cb) := by
  intro C ro E0 H0 w0 cur s x s' E a w Q hm hK h0 hro hok hI h hn
  simp only [codeOk, Bool.and_eq_true] at hok
  simp only [evalC] at h
  split at h
  · rename_i hid caps hg
    simp only [Option.map_eq_some_iff, Prod.exists, Prod.mk.injEq] at h
    obtain ⟨v, H', e, hit, rfl, rfl⟩ := h
    unfold iterAV at hit
    split at hit
    · rename_i fn hf
      split at hit
      · rename_i body hb
        split at hit
        · rename_i hnm
          rcases hro with rfl | hro
          · -- at the outermost
            have hcall : ∀ (args : Array Value) (w : World), (callFunc hid args).run C.P w = .ok (.enter hid args) w := fun args w => by
              have h2 : ¬ fn.body = none := fun e => by simp [e] at hb
              simp [callFunc, hf, hnm, h2]
            have hgv := hI.sr.eval g
            rw [hg] at hgv
            have hgl := (show PR E (.func (.func hid) [] caps) (a.eval g) from hgv).leaf rfl
            generalize hcg : a.eval g = cg at hgl
            cases hgl with
            | func hagg hx hy hnil =>
            rename_i cx cy
            cases hx
            obtain ⟨l2, v2⟩ := leaf_list hy (fun z hz => hagg z (List.mem_append.2 (.inr hz)))
            have hny := hy.no_yld
            have hBw : B ≤ w.heap.size := hI.sr.sim.old
            refine wpIn_rangeFunc (F := FW none) (n := 0) ?_
            intro f0 _
            let rc : Loop := { state := .ready, pending := none, fn := f0, tmps := a.tmps, params := ps, assign := ca, body := cb, defers := w.heap.size }
            let l : Nat := w.heap.size + 1
            let W1 : World := (w.alloc (.deferred (some []))).alloc (.loop rc)
            have hL1 : W1.heap[l]? = some (.loop rc) := by
              have := World.alloc_heap_new (w.alloc (.deferred (some []))) (.loop rc)
              rwa [World.size_alloc] at this
            have hD1 : W1.heap[w.heap.size]? = some (Obj.deferred (some [])) := (Below.heap_alloc _ _ _ (by simp)).trans (World.alloc_heap_new w _)
            have hold : ∀ (k : Nat) (o : Obj), w.heap[k]? = some o → W1.heap[k]? = some o := fun k o hk => by
              have hlt := (Array.getElem?_eq_some_iff.1 hk).1
              exact (Below.heap_alloc _ _ _ (by simp; omega)).trans ((Below.heap_alloc w _ k hlt).trans hk)
            have hS0 : Sim B E s.H W1 := (hI.sr.sim.other (Other.alloc w _)).other (Other.alloc _ _)
            have hS1 : Sim B (E.as l) s.H W1 := hS0.as l
            have hT1 : Tr B C.n0 E w E W1 := (tr_alloc hBw _).trans (tr_alloc (by simp; omega) _)
            have hG1 : GlobOk C.U.G (E.as l) := (hK.g.evol hI.tr.evol).as
            have hY := rounds_ok (l := l) (W1 := W1) (rec := rc) iha ihb hm hK hok.1 hok.2 hI (ps := ps) (by show B ≤ w.heap.size + 1; omega) hL1 rfl rfl rfl rfl rfl rfl hS1
            refine ⟨l, [{ target := .collected w.heap.size, args := #[] }], W1, { target := .fn (.func hid) cy.toArray, args := #[.func (.yield l) #[] #[]] }, W1, hid, (Value.func (.yield l) #[] #[] :: cy).toArray, W1, run_enterLoop_outer _ _ _ _ _, ?_, fun _ _ => trivial, ?_, fun hh => absurd hh (by simp [FW, Fence.wide]), ?_⟩
            · simp only [resolve, hcg]
              simp [go_sem]
            · simp [invoke, go_sem, hcall]
            · have hc := hK.r _ _ _ _ _ _ _ hit (E.as l) W1 (Value.func (.yield l) #[] #[] :: cy) hS1 hG1 hY (by simp [l2]) (fun i u c hu hc => by
                cases i with
                | zero =>
                  simp only [List.getElem?_cons_zero, Option.some.injEq] at hu hc
                  subst hu hc
                  exact rfl
                | succ i =>
                  simp only [List.getElem?_cons_succ] at hu hc
                  exact (v2 i u c hu hc).as (hny i u hu))
              refine callsW (hc.mono ?_)
              rintro en w' ⟨c, E', rfl, hr⟩
              have hrec' : w'.heap[l]? = some (.loop rc) := hr.tr.objs l _ hL1 rfl (no_inM hS1 hL1 rfl)
              refine ⟨none, _, run_endLoop (P := C.P) hrec' (by simp [rc]), ?_⟩
              have hTas : Tr B s.H.length E W1 (E'.as E.yl) w' := hr.tr.as E.yl
              have hD' : ∀ (D : Nat), W1.heap[D]? = some (Obj.deferred (some [])) → (w'.putObj l (.loop { rc with state := .exhausted })).heap[D]? = some (Obj.deferred (some [])) := fun D hD => by
                have hne : D ≠ l := by
                  rintro rfl
                  rw [hL1] at hD
                  cases hD
                exact (World.putObj_heap_other hne).trans (hr.tr.objs D _ hD rfl (no_inM hS1 hD rfl))
              refine hn (E'.as E.yl) _ _ ⟨⟨(hr.sim.other (Other.put hrec' rfl rfl rfl)).as E.yl, fun t => ?_, hI.sr.size, Nat.le_trans hI.sr.len hr.len⟩, ?_, ⟨?_, ?_⟩, fun hesc => ?_⟩
              · have hvt := hI.sr.vals t
                unfold St.get at hvt ⊢
                split
                · rename_i hx
                  rw [if_pos hx] at hvt
                  refine hvt.later ?_ ?_
                  · rw [hI.sr.sim.top]; exact hTas.evol
                  · have h2 : E'.top = H'.length := hr.sim.top
                    have h3 : E.top = s.H.length := hI.sr.sim.top
                    have h4 : (E'.as E.yl).top = E'.top := rfl
                    have h5 := hr.len
                    omega
                · trivial
              · exact (hI.tr.trans (hT1.trans (hTas.mono hI.sr.len))).put (by show B ≤ w.heap.size + 1; omega) (by have := hI.tr.below.size; show w0.heap.size ≤ w.heap.size + 1; omega) hrec' rfl rfl
              · refine List.nodup_cons.2 ⟨fun hmem => ?_, hI.marks.1⟩
                obtain ⟨D, k1, _, k3⟩ := hI.marks.2 _ hmem
                have hD : w.heap.size = D := by
                  have := congrArg Deferred.target k1
                  simpa using this
                have := (Array.getElem?_eq_some_iff.1 k3).1
                omega
              · intro d hd
                rcases List.mem_cons.1 hd with rfl | hd
                · exact ⟨w.heap.size, rfl, hI.tr.below.size, hD' _ hD1⟩
                · obtain ⟨D, k1, k2, k3⟩ := hI.marks.2 d hd
                  exact ⟨D, k1, k2, hD' _ (hold _ _ k3)⟩
              · simp only [Bool.or_eq_false_iff] at hesc
                exact (hI.sub hesc.1).trans ((hr.sub hesc.2).mono hI.sr.len)
          · exfalso
            rw [hro] at hit
            cases hit
        · simp at hit
      · simp at hit
    · simp at hit
  · simp at h

end
end Go.X
/-
  Code, functions, functions that call each other: what the evaluator tells is what the model does.
-/
namespace Go.X
open Go.RowKit (Below)

theorem fencedW {ro : Option Nat} {P : Program} (m : Machine) : m.fenced P (FW ro) := fenced_wide P m

section loops
variable {ro : Option Nat} {P : Program} {Q : Exit → Act → World → Prop} {a : Act} {w : World}

/-- A loop, right before a round. -/
def LoopWp (ro : Option Nat) (P : Program) (c : Code) (Q : Exit → Act → World → Prop) (a : Act) (w : World) : Prop :=
  ∀ (b : Frame) (k : List Item) (cs : List Frame), b.roundOf = ro → ∃ e a' w', Q e a' w' ∧ ArrivesIn (Machine.fenced P (FW ro)) P (lone (b.atR a (.code c :: .inLoop c :: k)) cs w) b k cs e a' w'

theorem LoopWp.wp {c : Code} (h : LoopWp ro P c Q a w) : (Code.loop c).wpIn (FW ro) 0 P Q a w := by
  intro b k cs hro hb hr
  obtain ⟨e, a', w', hq, harr⟩ := h b k cs hro
  exact ⟨e, a', w', hq, .of_steps (.one (fencedW _) stepR_loop) harr⟩

theorem roomW {n : Nat} : (FW ro).room n := fun _ h => by simp [FW, Fence.wide] at h

theorem LoopWp.round {c : Code} (h : c.wpIn (FW ro) 0 P (Exit.then (LoopWp ro P c Q) Q) a w) : LoopWp ro P c Q a w := by
  intro b k cs hro
  obtain ⟨e, a₁, w₁, hq, harr⟩ := h b (.inLoop c :: k) cs hro trivial roomW
  cases e with
  | normal =>
    obtain ⟨e₂, a₂, w₂, hq₂, harr₂⟩ := hq b k cs hro
    exact ⟨e₂, a₂, w₂, hq₂, .of_steps (StepsIn.trans harr (.one (fencedW _) stepR_inLoop)) harr₂⟩
  | exit id => exact ⟨_, a₁, w₁, hq, .pass (x := .inLoop c) rfl (fun _ _ => .inl (by simp)) harr⟩
  | goto l => exact ⟨_, a₁, w₁, hq, .pass (x := .inLoop c) rfl (fun _ _ => .inl (by simp)) harr⟩
  | ret => exact ⟨_, a₁, w₁, hq, .pass (x := .inLoop c) rfl (fun _ _ => .inl (by simp)) harr⟩
  | panic ch => exact ⟨_, a₁, w₁, hq, .pass (x := .inLoop c) rfl (fun _ _ => .inl (by simp)) harr⟩
  | outgrown => exact ⟨_, a₁, w₁, hq, .pass (x := .inLoop c) rfl (fun _ _ => .inl (by simp)) harr⟩
end loops

section
variable {C : Ctx} {B : Nat} {E0 : Env} {H0 : Heap} {w0 : World}

theorem loop_ok {ro : Option Nat} (h0 : ∀ i bk r, H0.blk i = some bk → r ∈ bk.root.refs → r < C.n0) {m : Nat} {c : Code} {body : St → Option (Ex × St)}
    (hbody : ∀ (s : St) (x : Ex) (s' : St) (E : Env) (a : Act) (w : World) (Q : Exit → Act → World → Prop), IV C B E0 H0 w0 E s a w → body s = some (x, s') → (∀ E' a' w', IV C B E0 H0 w0 E' s' a' w' → Q x.out a' w') → c.wpIn (FW ro) 0 C.P Q a w) :
    ∀ (k : Nat) (s : St) (x : Ex) (s' : St) (E : Env) (a : Act) (w : World) (Q : Exit → Act → World → Prop), IV C B E0 H0 w0 E s a w → loopN (headSt C m) body k s = some (x, s') → (∀ E' a' w', IV C B E0 H0 w0 E' s' a' w' → Q x.out a' w') → LoopWp ro C.P c Q a w
  | 0, s, x, s', E, a, w, Q, hI, h, hn => by simp [loopN] at h
  | k + 1, s, x, s', E, a, w, Q, hI, h, hn => by
    simp only [loopN, Option.bind_eq_some_iff, Prod.exists] at h
    obtain ⟨s1, h1, x1, s2, h2, h3⟩ := h
    obtain ⟨E1, hI1⟩ := head_ok hI h0 h1
    refine LoopWp.round (hbody s1 x1 s2 E1 a w _ hI1 h2 (fun E' a' w' hI' => ?_))
    cases x1 with
    | normal => exact loop_ok h0 hbody k s2 x s' E' a' w' Q hI' h3 hn
    | exit id =>
      obtain ⟨rfl, rfl⟩ := by simpa using h3
      exact hn E' a' w' hI'
    | ret =>
      obtain ⟨rfl, rfl⟩ := by simpa using h3
      exact hn E' a' w' hI'

theorem codeOk_all (fuel B : Nat) : ∀ (c : Code), CodeOk fuel B c := by
  intro c
  induction c with
  | skip =>
    intro C ro E0 H0 w0 cur s x s' E a w Q hm hK h0 hro hok hI h hn
    obtain ⟨rfl, rfl⟩ := by simpa [evalC] using h
    exact wpIn_skip (hn E a w hI)
  | region id ops draw =>
    intro C ro E0 H0 w0 cur s x s' E a w Q hm hK h0 hro hok hI h hn
    simp only [evalC, Option.map_eq_some_iff, Prod.mk.injEq] at h
    obtain ⟨s1, h1, rfl, rfl⟩ := h
    exact region_ok hK hm hok hI h1 (fun E' a' w' hI' => hn E' a' w' hI'.forget)
  | seq c d ihc ihd =>
    intro C ro E0 H0 w0 cur s x s' E a w Q hm hK h0 hro hok hI h hn
    simp only [evalC, Option.bind_eq_some_iff, Prod.exists] at h
    obtain ⟨x1, s1, h1, h2⟩ := h
    simp only [codeOk, Bool.and_eq_true] at hok
    refine wpIn_seq (ihc C ro E0 H0 w0 cur s x1 s1 E a w _ hm hK h0 hro hok.1 hI h1 (fun E' a' w' hI' => ?_))
    cases x1 with
    | normal => exact ihd C ro E0 H0 w0 cur s1 x s' E' a' w' Q hm hK h0 hro hok.2 hI' h2 hn
    | exit id =>
      obtain ⟨rfl, rfl⟩ := by simpa using h2
      exact hn E' a' w' hI'
    | ret =>
      obtain ⟨rfl, rfl⟩ := by simpa using h2
      exact hn E' a' w' hI'
  | cond c t e iht ihe =>
    intro C ro E0 H0 w0 cur s x s' E a w Q hm hK h0 hro hok hI h hn
    simp only [codeOk, Bool.and_eq_true] at hok
    have hv := hI.sr.eval c
    simp only [evalC] at h
    split at h
    · rename_i hc
      rw [hc] at hv
      exact wpIn_cond_true hv.bool_inv (iht C ro E0 H0 w0 cur s x s' E a w Q hm hK h0 hro hok.1 hI h hn)
    · rename_i hc
      rw [hc] at hv
      exact wpIn_cond_false hv.bool_inv (ihe C ro E0 H0 w0 cur s x s' E a w Q hm hK h0 hro hok.2 hI h hn)
    · simp at h
  | block id c ih =>
    intro C ro E0 H0 w0 cur s x s' E a w Q hm hK h0 hro hok hI h hn
    simp only [evalC, Option.map_eq_some_iff, Prod.exists] at h
    obtain ⟨x1, s1, h1, h2⟩ := h
    refine wpIn_block (ih C ro E0 H0 w0 id s x1 s1 E a w _ hm hK h0 hro hok hI h1 (fun E' a' w' hI' => ?_))
    cases x1 with
    | normal =>
      obtain ⟨rfl, rfl⟩ := by simpa using h2
      exact hn E' a' w' hI'
    | exit i =>
      simp only at h2
      simp only [Ex.out, Exit.inBlock]
      split at h2
      · rename_i hi
        obtain ⟨rfl, rfl⟩ := by simpa using h2
        rw [if_pos hi]
        exact hn E' a' w' hI'
      · rename_i hi
        obtain ⟨rfl, rfl⟩ := by simpa using h2
        rw [if_neg hi]
        exact hn E' a' w' hI'
    | ret =>
      obtain ⟨rfl, rfl⟩ := by simpa using h2
      exact hn E' a' w' hI'
  | loop c ih =>
    intro C ro E0 H0 w0 cur s x s' E a w Q hm hK h0 hro hok hI h hn
    simp only [evalC] at h
    exact (loop_ok h0 (fun s x s' E a w Q hI h hn => ih C ro E0 H0 w0 0 s x s' E a w Q hm hK h0 hro hok hI h hn) fuel s x s' E a w Q hI h hn).wp
  | exit i =>
    intro C ro E0 H0 w0 cur s x s' E a w Q hm hK h0 hro hok hI h hn
    obtain ⟨rfl, rfl⟩ := by simpa [evalC] using h
    exact wpIn_exit (hn E a w hI)
  | ret =>
    intro C ro E0 H0 w0 cur s x s' E a w Q hm hK h0 hro hok hI h hn
    obtain ⟨rfl, rfl⟩ := by simpa [evalC] using h
    exact wpIn_ret (hn E a w hI)
  | rangeFunc g ps ca cb iha ihb => exact range_ok iha ihb
  | _ =>
    intro C ro E0 H0 w0 cur s x s' E a w Q hm hK h0 hro hok hI h hn
    simp [evalC] at h

end

/-- A function comes back over its marks. -/
theorem leaves_marks {P : Program} {fn : Func} {tmps : Array Value} {R : Ending → World → Prop} {m : Nat} {I : World → Prop}
    (hstep : ∀ w (D : Nat), I w → m ≤ D → w.heap[D]? = some (Obj.deferred (some [])) → I (w.putObj D (.deferred none)))
    (hend : ∀ w, I w → ∃ v, (results fn tmps).run P w = .ok v w ∧ R (.returned v) w) : ∀ (ds : List Deferred) (w : World), I w → ds.Nodup →
    (∀ d ∈ ds, ∃ D, d = { target := .collected D, args := #[] } ∧ m ≤ D ∧ w.heap[D]? = some (Obj.deferred (some []))) → LeavesInM Fence.wide 0 P fn tmps R ds .returning w
  | [], w, hI, _, _ => hend w hI
  | d :: ds, w, hI, hnd, hds => by
    obtain ⟨D, rfl, hD, hw⟩ := hds _ (List.mem_cons_self)
    obtain ⟨h1, h2⟩ := List.nodup_cons.1 hnd
    refine ⟨by simp, .inl ⟨D, _, rfl, run_takeDeferred hw, ?_⟩⟩
    refine leaves_marks hstep hend ds _ (hstep w D hI hD hw) h2 (fun d' hd' => ?_)
    obtain ⟨D', rfl, hm', hw'⟩ := hds _ (List.mem_cons_of_mem _ hd')
    have hne : D' ≠ D := by
      rintro rfl
      exact h1 hd'
    exact ⟨D', rfl, hm', (World.putObj_heap_other hne).trans hw'⟩

section
variable {P : Program} {B : Nat}

theorem VR.clean {E : Env} {v : AV} {c : Value} (h : VR E v c) : (if v.plain then v else AV.bad) = .bad ∨ PR E (if v.plain then v else AV.bad) c := by
  by_cases hp : v.plain = true
  · rw [if_pos hp]; exact .inr (h.toPR hp)
  · rw [if_neg hp]; exact .inl rfl

/-- What one result reads. -/
def resOf (tmps : Array Value) : ResultVar → Sem Value
  | .tmp t => pure (tmps.getD t undef)
  | .cell a t => do loadVar t (← asAddr (tmps.getD a undef))

theorem results_def (fn : Func) (tmps : Array Value) : results fn tmps = (do
    let vs ← fn.results.mapM (resOf tmps)
    pure (if h : vs.size = 1 then vs[0] else .tuple vs)) := by
  unfold results
  congr 2

theorem load_ptr {E : Env} {H : Heap} {t : TypeId} {x v : AV} {c : Value} (hx : VR E x c) (h : loadAV P H t x = some v) : ∃ ad, c = .pointer (some ad) := by
  cases x with
  | ptr p =>
    obtain ⟨ad, h1, _⟩ := PR.ptr_inv (show PR E (.ptr p) c from hx)
    exact ⟨ad, h1⟩
  | iptr u =>
    obtain ⟨b, o, c1, h1, _⟩ := PR.iptr_inv (show PR E (.iptr u) c from hx)
    exact ⟨_, h1⟩
  | sptr p esz n off len =>
    obtain ⟨cs, h1, rfl⟩ := (show PR E (.sptr p esz n off len) c from hx)
    cases h1 with
    | sptr h2 h3 h4 => cases h4; exact ⟨_, rfl⟩
  | _ => simp [loadAV] at h

theorem results_ok {C : Ctx} {E : Env} {s : St} {a : Act} {w : World} (hR : SR C B E s a w) : ∀ (rs : List ResultVar) (vs : List AV), rs.mapM (resultAV C s) = some vs →
    ∃ cvs : List Value, (rs.mapM (resOf a.tmps)).run C.P w = .ok cvs w ∧ vs.length = cvs.length ∧
      ∀ (i : Nat) (v : AV) (c : Value), vs[i]? = some v → cvs[i]? = some c → VR E v c
  | [], vs, h => by
    obtain rfl : vs = [] := by simpa using h
    exact ⟨[], by simp, rfl, fun i v c hv => by simp at hv⟩
  | r :: rs, vs, h => by
    simp only [List.mapM_cons, Option.bind_eq_bind, Option.pure_def, Option.bind_eq_some_iff] at h
    obtain ⟨v, hv, vs', hvs, h⟩ := h
    obtain rfl := Option.some.inj h
    obtain ⟨cvs, h1, h2, h3⟩ := results_ok hR rs vs' hvs
    have hone : ∃ c, (resOf a.tmps r).run C.P w = .ok c w ∧ VR E v c := by
      cases r with
      | tmp t =>
        obtain rfl : s.get C.A t = v := by simpa [resultAV] using hv
        exact ⟨_, rfl, hR.vals t⟩
      | cell x t =>
        simp only [resultAV] at hv
        obtain ⟨c, k1, k2, _⟩ := load_ok hR.sim (hR.vals x) hv
        obtain ⟨ad, had⟩ := load_ptr (hR.vals x) hv
        refine ⟨c, ?_, .of_PR k2⟩
        show (do loadVar t (← asAddr (a.tmps.getD x undef)) : Sem Value).run C.P w = _
        rw [had] at k1 ⊢
        simpa [Instr.loadAt, Instr.sureAddr, asAddr] using k1
    obtain ⟨c, k1, k2⟩ := hone
    refine ⟨c :: cvs, ?_, by simp [h2], fun i v' c' hv' hc' => ?_⟩
    · rw [List.mapM_cons, Sem.run_bind, k1, Result.andThen_ok, Sem.run_bind, h1, Result.andThen_ok]
      rfl
    · cases i with
      | zero =>
        simp only [List.getElem?_cons_zero, Option.some.injEq] at hv' hc'
        subst hv' hc'
        exact k2
      | succ i => exact h3 i v' c' (by simpa using hv') (by simpa using hc')

theorem look_init (args : List AV) (t : Nat) : ∀ (keys : List Nat), look (initL keys args) t = .bad ∨ look (initL keys args) t = (args[t]?).getD .bad
  | [] => .inl rfl
  | k :: keys => by
    unfold initL
    simp only [List.map_cons, look]
    split
    · rename_i hk
      subst hk
      exact .inr rfl
    · exact look_init args t keys

theorem escA_false {A : FAnn} {e : Bool} (h : escA A e = false) : e = false := by
  unfold escA at h
  split at h
  · cases h
  · exact h
theorem evalG_ok {U : Out} {ann : FuncId → FAnn} {fuel : Nat} {K : Oracle} {Y : Yld} {Rg : Yld → Oracle} (hK : OracleSound P B U.G K) (hX : ExtSound P B U.X) (hm : P.follows .mixedOrders = true) (hA : ∀ f, funcOk P (ann f) f = true) (hRg : RgSound P B U.G Rg) :
    ∀ f args H v H' e, evalG P U ann fuel K Y Rg f args H = some (v, H', e) → ∀ (E : Env) (w : World) (cargs : List Value), Sim B E H w → GlobOk U.G E → YOk P B Y H.length E w → args.length = cargs.length →
    (∀ (i : Nat) (v : AV) (c : Value), args[i]? = some v → cargs[i]? = some c → VR E v c) →
    Calls P f cargs.toArray w fun en w' => ∃ c E', en = .returned c ∧ Res B H.length E H w v H' e E' w' c := by
  intro f args H v H' e h E w cargs hs hG hYk hlen hv
  simp only [evalG, Option.bind_eq_some_iff, Prod.exists] at h
  obtain ⟨fn, hf, c, hb, x, s1, hev, h⟩ := h
  have hx : (x = .normal ∨ x = .ret) ∧ ∃ vs, fn.results.toList.mapM (resultAV ⟨P, K, H.length, max fn.ntmps args.length, ann f, U, Y, Rg⟩ s1) = some vs ∧
      ∃ H2, sweepA (ann f) s1.H H.length (pickAV vs).refs s1.esc = some H2 ∧
        (pickAV vs) = v ∧ H2 = H' ∧ escA (ann f) s1.esc = e := by
    cases x with
    | exit i => simp at h
    | normal =>
      simp only [Option.bind_eq_some_iff, Option.map_eq_some_iff, Prod.mk.injEq] at h
      obtain ⟨vs, h1, H2, h2, h3, h4, h5⟩ := h
      exact ⟨.inl rfl, vs, h1, H2, h2, h3, h4, h5⟩
    | ret =>
      simp only [Option.bind_eq_some_iff, Option.map_eq_some_iff, Prod.mk.injEq] at h
      obtain ⟨vs, h1, H2, h2, h3, h4, h5⟩ := h
      exact ⟨.inr rfl, vs, h1, H2, h2, h3, h4, h5⟩
  obtain ⟨hx, vs, hvs, H2, hsw, hvv, rfl, rfl⟩ := hx
  have h0 : ∀ i bk r, H.blk i = some bk → r ∈ bk.root.refs → r < H.length := fun i bk r hi hr => by
    obtain ⟨L, _, h2, _⟩ := hs.live i bk hi
    rw [← hs.top]
    exact h2.refs_lt r hr
  have hok : codeOk P (ann f) c = true := by
    have := hA f
    unfold funcOk at this
    rw [hf] at this
    simpa [hb] using this
  refine callsIn_wide.1 (callsIn_of_wp_marks (F := Fence.wide) (n := 0) hf hb trivial ?_)
  have hI : IV ⟨P, K, H.length, max fn.ntmps args.length, ann f, U, Y, Rg⟩ B E H w E ⟨initL (ann f).keys args, [], H, false⟩ { tmps := cargs.toArray ++ Array.replicate (fn.ntmps - cargs.toArray.size) undef, defers := [] } w := by
    refine ⟨⟨hs, fun t => ?_, ?_, Nat.le_refl _⟩, Tr.refl _ _ _ _, Marks.nil, fun _ => Sub.refl _ _⟩
    · unfold St.get
      split
      · rcases look_init args t (ann f).keys with h | h
        · simp only [h]; trivial
        · simp only [h]
          cases ha : args[t]? with
          | none => trivial
          | some u =>
            have hlt : t < args.length := (List.getElem?_eq_some_iff.1 ha).1
            have hc : cargs[t]? = some cargs[t] := List.getElem?_eq_getElem (by omega)
            have := hv t u _ ha hc
            have hg : (cargs.toArray ++ Array.replicate (fn.ntmps - cargs.toArray.size) undef).getD t undef = cargs[t] := by
              rw [Array.getD_eq_getD_getElem?, Array.getElem?_append_left (by simp; omega)]
              simp [hc]
            rw [hg]
            exact this
      · trivial
    · simp [hlen]; omega
  have hwp := codeOk_all fuel B c ⟨P, K, H.length, max fn.ntmps args.length, ann f, U, Y, Rg⟩ none E H w 0 _ x s1 E _ w
    (fun e a' w' => e = x.out ∧ ∃ E', IV ⟨P, K, H.length, max fn.ntmps args.length, ann f, U, Y, Rg⟩ B E H w E' s1 a' w') hm ⟨hK, hX, hG, hYk, hRg⟩ h0 (.inl rfl) hok hI hev (fun E' a' w' hI' => ⟨rfl, E', hI'⟩)
  refine wpIn_mono (F := Fence.wide) hwp ?_
  rintro e' a' w' ⟨rfl, E', hI'⟩
  have hfin : LeavesInM Fence.wide 0 P fn a'.tmps (fun en w' => ∃ c E', en = .returned c ∧ Res B H.length E H w v H2 (escA (ann f) s1.esc) E' w' c) a'.defers .returning w' := by
    refine leaves_marks (m := w.heap.size) (I := fun wq => SR ⟨P, K, H.length, max fn.ntmps args.length, ann f, U, Y, Rg⟩ B E' s1 a' wq ∧ Tr B H.length E w E' wq) ?_ ?_ a'.defers w' ⟨hI'.sr, hI'.tr⟩ hI'.marks.1 hI'.marks.2
    · rintro wq D ⟨h1, h2⟩ hD hw
      exact ⟨⟨h1.sim.other (Other.put hw rfl rfl rfl), h1.vals, h1.size, h1.len⟩, h2.put (Nat.le_trans hs.old hD) hD hw rfl rfl⟩
    · rintro wq ⟨hsr, htr⟩
      obtain ⟨cvs, h1, h2, h3⟩ := results_ok hsr _ _ hvs
      have hS := sweepA_ok (n0 := H.length) hsr.len hsw
      obtain ⟨k1, k2⟩ := swept_sim hsr.sim hS h0 hI'.sub
      have hval : ∀ c, VR E' v c → VR (E'.cut H2) v c := fun c hvc => by
        refine hvc.evol (k2 _).evol (Nat.le_refl _) (fun r hr => hS.root r (by rw [hvv]; exact hr) ?_)
        rw [← hsr.sim.top]
        exact hvc.refs_lt r hr
      have hres : ∀ c, VR E' v c → Res B H.length E H w v H2 (escA (ann f) s1.esc) (E'.cut H2) wq c := fun c hvc =>
        ⟨k1, hval c hvc, htr.trans (k2 _), hS.low, fun he i hi bk hbk => hI'.sub (escA_false he) i hi bk (hS.blk i bk hbk)⟩
      have hrun : (results fn a'.tmps).run P wq = .ok (if h : cvs.toArray.size = 1 then cvs.toArray[0] else .tuple cvs.toArray) wq := by
        have hma : (fn.results.mapM (resOf a'.tmps)).run P wq = .ok cvs.toArray wq := by
          rw [Array.mapM_eq_mapM_toList]
          simp only [Sem.run_map, h1]
          rfl
        rw [results_def, Sem.run_bind, hma]
        rfl
      refine ⟨_, hrun, _, E'.cut H2, rfl, hres _ ?_⟩
      rw [← hvv]
      match vs, cvs, h2, h3 with
      | [u], [d], _, h3 => exact h3 0 u d rfl rfl
      | [], [], _, h3 => exact ⟨[], rfl, rfl, fun i v c hv => by simp at hv⟩
      | u :: u2 :: us, d :: d2 :: ds, hl, h3 =>
        simp only [List.length_cons] at hl
        rw [dif_neg (by simp)]
        refine ⟨d :: d2 :: ds, rfl, by simpa using hl, fun i v c hv hc => ?_⟩
        simp only [List.getElem?_map, Option.map_eq_some_iff] at hv
        obtain ⟨v0, hv0, rfl⟩ := hv
        exact (h3 i v0 c hv0 hc).clean
  rcases hx with rfl | rfl
  · exact hfin
  · exact hfin

theorem evalI_ok {U : Out} {ann : FuncId → FAnn} {fuel : Nat} {K : Oracle} (hK : OracleSound P B U.G K) (hX : ExtSound P B U.X) (hm : P.follows .mixedOrders = true) (hA : ∀ f, funcOk P (ann f) f = true) : RgSound P B U.G (evalI P U ann fuel K) :=
  fun _ f args H v H' e h => evalG_ok hK hX hm hA RgSound.no f args H v H' e h

theorem evalF_ok {U : Out} {ann : FuncId → FAnn} {fuel : Nat} {K : Oracle} (hK : OracleSound P B U.G K) (hX : ExtSound P B U.X) (hm : P.follows .mixedOrders = true) (hA : ∀ f, funcOk P (ann f) f = true) : OracleSound P B U.G (evalF P U ann fuel K) :=
  fun f args H v H' e h E w cargs hs hG hlen hv => evalG_ok hK hX hm hA (evalI_ok hK hX hm hA) f args H v H' e h E w cargs hs hG YOk.no hlen hv

theorem evalN_ok {U : Out} {ann : FuncId → FAnn} {fuel : Nat} {K : Oracle} (hK : OracleSound P B U.G K) (hX : ExtSound P B U.X) (hm : P.follows .mixedOrders = true) (hA : ∀ f, funcOk P (ann f) f = true) : ∀ n, OracleSound P B U.G (evalN P U ann fuel K n)
  | 0 => hK
  | n + 1 => fun f args H v H' e h => by
    simp only [evalN] at h
    split at h
    · rename_i r hr
      obtain rfl := Option.some.inj h
      exact hK f args H v H' e hr
    · exact evalF_ok (evalN_ok hK hX hm hA n) hX hm hA f args H v H' e h

end
end Go.X
/-
  Functions without a body here: Go's reflectlite, as errors.Is and errors.As need it.
-/
namespace Go.X
open Go.RowKit (Below)
open Go.Extern

/-- What asks of the program alone. -/
def peel (P : Program) {α : Type} : Sem α → Option α
  | .pure a => some a
  | .program k => peel P (k P)
  | .mark _ k => peel P k
  | _ => none

theorem peel_run {P : Program} {α : Type} : ∀ (e : Sem α) (a : α), peel P e = some a → ∀ w, e.run P w = .ok a w := by
  intro e
  induction e with
  | pure b => intro a h w; obtain rfl := Option.some.inj h; rfl
  | program k ih => intro a h w; exact ih P a h w
  | mark m k ih => intro a h w; exact ih a h w
  | _ => intro a h; simp [peel] at h

/-! Values that are what they are, in whatever memory. -/
mutual
def AV.conc : AV → Option Value
  | .int k n => some (.int k n)
  | .bool b => some (.bool b)
  | .str s => some (.string s)
  | .nilp => some (.pointer none)
  | .hnd b t => some (.pointer (some ⟨b, t, none⟩))
  | .nili => some .nilIface
  | .iface t v => (v.conc).map fun c => .iface t c
  | .agg _ ps => (concL ps).map fun l => .agg l.toArray
  | _ => none
def concL : List AV → Option (List Value)
  | [] => some []
  | v :: r => (v.conc).bind fun c => (concL r).map fun l => c.cells.toList ++ l
end

def leafAbs : Value → AV
  | .int k n => .int k n
  | .bool b => .bool b
  | .string s => .str s
  | .pointer none => .nilp
  | .pointer (some ⟨b, o, none⟩) => .hnd b o
  | .nilIface => .nili
  | _ => .bad

def aggAbs : Value → AV
  | .agg cs => let ps := cs.toList.map leafAbs; if ps.all AV.plain then .agg ps.length ps else .bad
  | c => leafAbs c

def reabs : Value → AV
  | .iface t c => if (aggAbs c).plain then .iface t (aggAbs c) else .bad
  | c => aggAbs c

section
variable {P : Program} {B : Nat} {E E' : Env} {H : Heap} {w w' : World}

theorem leafAbs_ok (c : Value) : leafAbs c = .bad ∨ (FR E [leafAbs c] [c] ∧ (leafAbs c).isAgg = false) := by
  unfold leafAbs
  split
  · exact .inr ⟨.int .nil, rfl⟩
  · exact .inr ⟨.bool .nil, rfl⟩
  · exact .inr ⟨.str .nil, rfl⟩
  · exact .inr ⟨.nilp .nil, rfl⟩
  · exact .inr ⟨.hnd .nil, rfl⟩
  · exact .inr ⟨.nili .nil, rfl⟩
  · exact .inl rfl

theorem leaves_abs : ∀ (cs : List Value), (cs.map leafAbs).all AV.plain = true → FR E (cs.map leafAbs) cs
  | [], _ => .nil
  | c :: cs, h => by
    simp only [List.map_cons, List.all_cons, Bool.and_eq_true] at h
    have h1 : FR E [leafAbs c] [c] := by
      rcases leafAbs_ok (E := E) c with h2 | h2
      · rw [h2] at h; simp [AV.plain] at h
      · exact h2.1
    exact FR.append h1 (leaves_abs cs h.2)

theorem aggAbs_ok (c : Value) : aggAbs c = .bad ∨ PR E (aggAbs c) c := by
  unfold aggAbs
  split
  · rename_i cs
    simp only
    split
    · rename_i h
      right
      have h1 := FR.agg (E := E) (n := (cs.toList.map leafAbs).length) (leaves_abs (E := E) cs.toList h) (by simp) .nil
      exact ⟨_, h1, by simp [pack, AV.isAgg]⟩
    · exact .inl rfl
  · rename_i hn
    rcases leafAbs_ok (E := E) c with h | ⟨h1, h2⟩
    · exact .inl h
    · exact .inr ⟨_, h1, by simp [pack, h2]⟩

theorem reabs_ok (c : Value) : VR E (reabs c) c := by
  unfold reabs
  split
  · rename_i t c
    split
    · rename_i h
      rcases aggAbs_ok (E := E) c with h2 | ⟨cs, h2, h3⟩
      · rw [h2] at h; simp [AV.plain] at h
      · exact VR.of_PR (v := .iface t _) ⟨[.iface t (pack (aggAbs c) cs)], .iface h2 .nil, by simp [pack, AV.isAgg] at h3 ⊢; exact h3⟩
    · trivial
  · rcases aggAbs_ok (E := E) c with h2 | h2
    · rw [h2]; trivial
    · exact VR.of_PR h2

theorem FR.conc {vs : List AV} {cs : List Value} (h : FR E vs cs) : ∀ l, concL vs = some l → cs = l := by
  have one : ∀ {c : Value} {v : AV} {vs : List AV} {cs l : List Value}, v.conc = some c → c.cells = #[c] → (∀ l, concL vs = some l → cs = l) → concL (v :: vs) = some l → c :: cs = l := fun {c v vs cs l} h1 h2 ih hl => by
    simp only [concL, h1, Option.bind_some, Option.map_eq_some_iff] at hl
    obtain ⟨l', h3, rfl⟩ := hl
    rw [h2, ih l' h3]
    rfl
  induction h with
  | nil => intro l hl; simpa [concL] using hl
  | int h ih => intro l hl; exact one rfl rfl ih hl
  | bool h ih => intro l hl; exact one rfl rfl ih hl
  | str h ih => intro l hl; exact one rfl rfl ih hl
  | nilp h ih => intro l hl; exact one rfl rfl ih hl
  | hnd h ih => intro l hl; exact one rfl rfl ih hl
  | nili h ih => intro l hl; exact one rfl rfl ih hl
  | iface h1 h ih1 ih =>
    rename_i t v c1 vs cs
    intro l hl
    simp only [concL, AV.conc] at hl
    cases hc : v.conc with
    | none => simp [hc] at hl
    | some c =>
      have h2 := ih1 c.cells.toList (by simp [concL, hc])
      have h3 : pack v c1 = c := by
        subst h2
        have hl1 := h1.length
        unfold pack
        cases v <;> simp only [AV.conc, Option.some.injEq, reduceCtorEq, Option.map_eq_some_iff] at hc <;> first | (subst hc; rfl) | skip
        · obtain ⟨u, _, rfl⟩ := hc; rfl
        · obtain ⟨u, _, rfl⟩ := hc
          simp [AV.isAgg, Value.cells]
      exact one (c := .iface t (pack v c1)) (v := .iface t v) (by simp [AV.conc, hc, h3]) rfl ih (by simpa [concL, AV.conc] using hl)
  | agg h1 hn h ih1 ih =>
    rename_i n ps c1 vs cs
    intro l hl
    simp only [concL, AV.conc] at hl
    cases hc : concL ps with
    | none => simp [hc] at hl
    | some l1 =>
      simp only [hc, Option.map_some, Option.bind_some, Option.map_eq_some_iff] at hl
      obtain ⟨l', h3, rfl⟩ := hl
      rw [ih1 l1 hc, ih l' h3]
      rfl
  | _ => intro l hl; simp [concL, AV.conc] at hl

theorem conc_ok {v : AV} {c d : Value} (h : VR E v c) (hc : v.conc = some d) : c = d := by
  have hp : v.plain = true := by cases v <;> first | rfl | simp [AV.conc] at hc
  obtain ⟨cs, h1, rfl⟩ := h.toPR hp
  have h2 := h1.conc d.cells.toList (by simp [concL, hc])
  subst h2
  unfold pack
  cases v <;> simp only [AV.conc, Option.some.injEq, reduceCtorEq, Option.map_eq_some_iff] at hc <;> first | (subst hc; rfl) | skip
  · obtain ⟨u, _, rfl⟩ := hc; rfl
  · obtain ⟨u, _, rfl⟩ := hc
    simp [AV.isAgg, Value.cells]

theorem concs_ok : ∀ {vs : List AV} {cs ds : List Value}, vs.length = cs.length → (∀ (i : Nat) (v : AV) (c : Value), vs[i]? = some v → cs[i]? = some c → VR E v c) → vs.mapM AV.conc = some ds → cs = ds
  | [], cs, ds, hl, _, h => by
    simp at h
    subst h
    exact List.eq_nil_of_length_eq_zero hl.symm
  | x :: xs, cs, ds, hl, hv, h => by
    cases cs with
    | nil => simp at hl
    | cons c cs =>
      simp only [List.mapM_cons, Option.bind_eq_bind, Option.pure_def, Option.bind_eq_some_iff] at h
      obtain ⟨d, hd, ds', hds, h⟩ := h
      obtain rfl := Option.some.inj h
      have e1 := conc_ok (hv 0 x c rfl rfl) hd
      have e2 := concs_ok (cs := cs) (ds := ds') (by simpa using hl) (fun i v c h1 h2 => hv (i + 1) v c (by simpa using h1) (by simpa using h2)) hds
      rw [e1, e2]

end
end Go.X
/-
  Functions without a body here: Go's reflectlite, as errors.Is and errors.As need it.
-/
namespace Go.X
open Go.RowKit (Below)
open Go.Extern

/-- The entries, by number. -/
def rowOf : Nat → (Array Value → Sem Value)
  | 1 => ReflectliteType.typeOf
  | 2 => ReflectliteType.method ReflectliteType.elem
  | 3 => ReflectliteType.method fun t => do Rtype.noPackHeld "Comparable" t; pure (.bool (← typeInfo t).comparable)
  | 4 => ReflectliteType.relation "Implements" ReflectliteType.implements_
  | 5 => ReflectliteType.relation "AssignableTo" ReflectliteType.assignableTo
  | 7 => ReflectliteType.abiMethod fun t => do pure (.int .u8 (← Rtype.kind t))
  | 10 => fun args => ReflectliteValue.unpack (args.getD 0 (.tuple #[]))
  | 11 => ReflectliteValue.methodAny (ReflectliteValue.valueError "reflectlite.Value.Type" 0) fun t _ _ _ => ReflectliteType.toType t
  | 12 => ReflectliteValue.method (ReflectliteValue.valueError "reflectlite.Value.IsNil" 0) ReflectliteValue.isNil
  | 13 => ReflectliteValue.method (ReflectliteValue.valueError "reflectlite.Value.Elem" 0) ReflectliteValue.elem
  | 14 => ReflectliteValue.set
  | _ => fun _ => .halt .blocked

def extName : Nat → String
  | 1 => "internal/reflectlite.TypeOf"
  | 2 => "(internal/reflectlite.rtype).Elem"
  | 3 => "(internal/reflectlite.rtype).Comparable"
  | 4 => "(internal/reflectlite.rtype).Implements"
  | 5 => "(internal/reflectlite.rtype).AssignableTo"
  | 7 => "(*internal/abi.Type).Kind"
  | 10 => "internal/reflectlite.ValueOf"
  | 11 => "(internal/reflectlite.Value).Type"
  | 12 => "(internal/reflectlite.Value).IsNil"
  | 13 => "(internal/reflectlite.Value).Elem"
  | 14 => "(internal/reflectlite.Value).Set"
  | _ => ""

/-- A reflectlite.Value: its type, where it lies, its flags. -/
def valOf (P : Program) : AV → Option (TypeId × AV × Nat)
  | .agg _ [.hnd b t, p, .int .u64 f] => if b = P.globals.size ∧ 0 < f then
      match p with
      | .ptr p => some (t, .ptr p, f.toNat)
      | .iptr v => some (t, .iptr v, f.toNat)
      | _ => none
    else none
  | _ => none

def isNilAV : AV → Option Bool
  | .nilp => some true
  | .ptr _ => some false
  | .iptr _ => some false
  | .hnd _ _ => some false
  | .nils => some true
  | _ => none

def extAV (P : Program) (k : Nat) (args : List AV) (H : Heap) : Option (AV × Heap × Bool) :=
  match k, args with
  | 1, [.nili] => some (.nili, H, false)
  | 1, [.iface t _] => (peel P (ReflectliteType.toType t)).map fun c => (reabs c, H, false)
  | 10, [.iface t v] => if v.plain then (peel P (Rtype.kind t)).map fun kd =>
      let r := newVarAV H v
      (.agg 3 [.hnd P.globals.size t, r.1, .int .u64 (Int.ofNat (kd + 128 + 0))], r.2, false) else none
  | 11, [x] => (valOf P x).bind fun y => (peel P (ReflectliteType.toType y.1)).map fun c => (reabs c, H, false)
  | 12, [x] => (valOf P x).bind fun y => (peel P (Rtype.noPack "a Value asked or handed on" y.1)).bind fun _ =>
      if y.2.2 % 32 = 22 then (loadAV P H y.1 y.2.1).bind fun u => (isNilAV u).map fun b => (.bool b, H, false) else none
  | 13, [x] => (valOf P x).bind fun y => (peel P (Rtype.noPack "a Value asked or handed on" y.1)).bind fun _ =>
      if y.2.2 % 32 = 22 then (loadAV P H y.1 y.2.1).bind fun u => (peel P (Rtype.elem? y.1)).bind fun e => match u, e with
        | .ptr q, some e => (peel P (Rtype.kind e)).map fun kd => (.agg 3 [.hnd P.globals.size e, .ptr q, .int .u64 (Int.ofNat (kd + 128 + 256))], H, false)
        | _, _ => none
      else none
  | 14, [x, z] => (valOf P x).bind fun y => (valOf P z).bind fun y2 =>
      (peel P (Rtype.noPack "a Value asked or handed on" y.1)).bind fun _ => (peel P (Rtype.noPack "a Value asked or handed on" y2.1)).bind fun _ =>
      if y.2.2 / 256 % 2 = 0 then none else (loadAV P H y2.1 y2.2.1).bind fun val => (peel P (Rtype.directlyAssignable y.1 y2.1)).bind fun d =>
      if d then (storeAV P H y.1 y.2.1 val).map fun H' => (.bad, H', !val.refless) else none
  | 1, _ => none
  | 10, _ => none
  | 11, _ => none
  | 12, _ => none
  | 13, _ => none
  | 14, _ => none
  | k, args => (args.mapM AV.conc).bind fun cs => (peel P (rowOf k cs.toArray)).map fun c => (reabs c, H, false)

def extX (P : Program) (tab : List (Nat × Nat)) : Oracle := fun f args H => match tab.lookup f with
  | some k => extAV P k args H
  | none => none

/-- What is asked of the table of a program's entries. -/
def TabSound (P : Program) (tab : List (Nat × Nat)) : Prop :=
  ∀ x ∈ tab, ∃ fn, P.funcs[x.1]? = some fn ∧ (fn.name == "runtime.NumGoroutine") = false ∧ fn.body.isNone = true ∧ Extern.findNext fn = none ∧ Extern.find fn = some (rowOf x.2)

section
variable {P : Program} {B : Nat} {E E' : Env} {H : Heap} {w w' : World}

theorem valOf_ok {x : AV} {c : Value} (h : VR E x c) {t : TypeId} {p : AV} {f : Nat} (hv : valOf P x = some (t, p, f)) :
    ∃ ad, c = .agg #[.pointer (some ⟨P.globals.size, t, none⟩), .pointer (some ad), .int .u64 (f : Int)] ∧ VR E p (.pointer (some ad)) ∧ 0 < f := by
  unfold valOf at hv
  split at hv
  · rename_i n b t' p' f'
    split at hv
    · rename_i hc
      obtain ⟨rfl, hf⟩ := hc
      obtain ⟨cs, h1, rfl⟩ := (show PR E (.agg n [.hnd _ t', p', .int .u64 f']) c from h)
      cases h1 with
      | agg g1 g2 g3 =>
      cases g3
      obtain ⟨a1, a2, rfl, k1, k2⟩ := g1.cons_inv
      obtain ⟨b1, b2, rfl, k3, k4⟩ := k2.cons_inv
      cases k1 with
      | hnd k1 =>
      cases k1
      cases k4 with
      | int k4 =>
      cases k4
      have hnat : ((f'.toNat : Nat) : Int) = f' := Int.toNat_of_nonneg (by omega)
      split at hv
      · simp only [Option.some.injEq, Prod.mk.injEq] at hv
        obtain ⟨rfl, rfl, rfl⟩ := hv
        cases k3 with
        | ptr q1 q2 q3 =>
        cases q3
        refine ⟨_, ?_, VR.of_PR (v := .ptr _) ⟨[_], .ptr q1 q2 .nil, rfl⟩, by omega⟩
        simp [pack, AV.isAgg, hnat]
      · simp only [Option.some.injEq, Prod.mk.injEq] at hv
        obtain ⟨rfl, rfl, rfl⟩ := hv
        cases k3 with
        | iptr q1 q2 q3 q4 =>
        cases q4
        refine ⟨_, ?_, VR.of_PR (v := .iptr _) ⟨[_], .iptr q1 q2 q3 .nil, rfl⟩, by omega⟩
        simp [pack, AV.isAgg, hnat]
      · simp at hv
    · simp at hv
  · simp at hv

theorem parts_run {t : TypeId} {ad : Addr} {f : Nat} (hf : 0 < f) (w : World) :
    (ReflectliteValue.partsAny (.agg #[.pointer (some ⟨P.globals.size, t, none⟩), .pointer (some ad), .int .u64 (f : Int)])).run P w = .ok (some (t, ad, f)) w := by
  obtain ⟨n, rfl⟩ : ∃ n, f = n + 1 := ⟨f - 1, by omega⟩
  have h1 : ReflectliteValue.partsAny (.agg #[.pointer (some ⟨P.globals.size, t, none⟩), .pointer (some ad), .int .u64 ((n + 1 : Nat) : Int)]) =
      (do pure (some (← Rtype.ofHandle (.pointer (some ⟨P.globals.size, t, none⟩)), ad, ((n + 1 : Nat) : Int).toNat))) := rfl
  have h2 : (Rtype.ofHandle (.pointer (some ⟨P.globals.size, t, none⟩))).run P w = .ok t w := by
    simp [Rtype.ofHandle, handleType]
  rw [h1]
  simp only [Sem.run_bind, h2, Result.andThen_ok, Sem.run_pure]
  rfl


theorem methodAny_run {z : Sem Value} {f : TypeId → Addr → Nat → Nat → Sem Value} {v : Value} {t : TypeId} {a : Addr} {fl : Nat} (h : (ReflectliteValue.partsAny v).run P w = .ok (some (t, a, fl)) w) :
    (ReflectliteValue.methodAny z f #[v]).run P w = (f t a fl (fl % 32)).run P w := by
  have h1 : ReflectliteValue.methodAny z f #[v] = (ReflectliteValue.partsAny v >>= fun r => match r with | none => z | some (t, a, fl) => f t a fl (fl % 32)) := rfl
  rw [h1, Sem.run_bind, h]
  rfl

theorem parts_some {v : Value} {t : TypeId} {a : Addr} {fl : Nat} (h : (ReflectliteValue.partsAny v).run P w = .ok (some (t, a, fl)) w) (hn : (Rtype.noPack "a Value asked or handed on" t).run P w = .ok () w) :
    (ReflectliteValue.parts v).run P w = .ok (some (t, a, fl)) w := by
  have h1 : ReflectliteValue.parts v = (ReflectliteValue.partsAny v >>= fun r => match r with | some (t, a, fl) => (Rtype.noPack "a Value asked or handed on" t >>= fun _ => pure (some (t, a, fl))) | none => pure none) := rfl
  rw [h1, Sem.run_bind, h, Result.andThen_ok]
  simp only [Sem.run_bind, hn, Result.andThen_ok]
  rfl

theorem method_run {z : Sem Value} {f : TypeId → Addr → Nat → Nat → Sem Value} {v : Value} {t : TypeId} {a : Addr} {fl : Nat} (h : (ReflectliteValue.partsAny v).run P w = .ok (some (t, a, fl)) w) (hn : (Rtype.noPack "a Value asked or handed on" t).run P w = .ok () w) :
    (ReflectliteValue.method z f #[v]).run P w = (f t a fl (fl % 32)).run P w := by
  have h1 : ReflectliteValue.method z f #[v] = (ReflectliteValue.parts v >>= fun r => match r with | none => z | some (t, a, fl) => f t a fl (fl % 32)) := rfl
  rw [h1, Sem.run_bind, parts_some h hn]
  rfl

theorem set_run {x z : Value} {t t2 : TypeId} {a b : Addr} {f f2 : Nat} {cval : Value} {w' : World} (h : (ReflectliteValue.parts x).run P w = .ok (some (t, a, f)) w) (h2 : (ReflectliteValue.parts z).run P w = .ok (some (t2, b, f2)) w)
    (hf : (f / ReflectliteValue.flagAddr % 2 == 0) = false) (hl : (loadVar t2 b).run P w = .ok cval w) (hd : (Rtype.directlyAssignable t t2).run P w = .ok true w) (hs : (storeVar t a cval).run P w = .ok () w') :
    (ReflectliteValue.set #[x, z]).run P w = .ok (.tuple #[]) w' := by
  have h1 : ReflectliteValue.set #[x, z] = (ReflectliteValue.parts x >>= fun r1 => ReflectliteValue.parts z >>= fun r2 => match (r1, r2) with
      | (some (dst, a, fl), some (src, b, _)) => (do
        if fl / ReflectliteValue.flagAddr % 2 == 0 then unsupported (.noEntry "extern/(internal/reflectlite.Value).Set.unaddressable")
        let val ← loadVar src b
        if ← Rtype.directlyAssignable dst src then storeVar dst a val
        else if ← Rtype.implements dst src then
          if (← Rtype.kind src) == 20 then
            match val with
            | .nilIface => unsupported (.noEntry "extern/reflectlite: a nil value of one interface type handed on as a value of another")
            | _ => storeVar dst a val
          else storeVar dst a (.iface src val)
        else panicString ("reflectlite.Set: value of type " ++ (← Rtype.spelt src) ++ " is not assignable to type " ++ (← Rtype.spelt dst))
        pure (.tuple #[]))
      | _ => unsupported (.noEntry "extern/(internal/reflectlite.Value).Set.zeroValue")) := rfl
  rw [h1, Sem.run_bind, h, Result.andThen_ok, Sem.run_bind, h2, Result.andThen_ok]
  simp [hf, hl, hd, hs]

theorem mk_run {t : TypeId} {kd : Nat} {a : Addr} {fl : Nat} (h : peel P (Rtype.kind t) = some kd) (w : World) :
    (ReflectliteValue.mk t a fl).run P w = .ok (.agg #[.pointer (some ⟨P.globals.size, t, none⟩), .pointer (some a), .int .u64 (Int.ofNat (kd + 128 + fl))]) w := by
  have h1 := peel_run _ _ h w
  have h2 : (Rtype.handle t).run P w = .ok (.pointer (some ⟨P.globals.size, t, none⟩)) w := by
    simp [Rtype.handle, typeHandle]
  unfold ReflectliteValue.mk
  simp [Sem.run_bind, h1, h2, ReflectliteValue.flagIndir]

theorem val_vr {t : TypeId} {p : Pl} {ad : Addr} {f : Int} (hp : VR E (.ptr p) (.pointer (some ad))) :
    VR E (.agg 3 [.hnd P.globals.size t, .ptr p, .int .u64 f]) (.agg #[.pointer (some ⟨P.globals.size, t, none⟩), .pointer (some ad), .int .u64 f]) := by
  obtain ⟨cs, h1, h2⟩ := (show PR E (.ptr p) _ from hp)
  have h3 := h1.length
  simp only [sumLen, AV.flatLen, Nat.add_zero] at h3
  obtain ⟨c, rfl⟩ := List.length_eq_one_iff.1 h3
  have hc : c = .pointer (some ad) := by simpa [pack, AV.isAgg] using h2.symm
  subst hc
  have hf : FR E [.hnd P.globals.size t, .ptr p, .int .u64 f] [.pointer (some ⟨P.globals.size, t, none⟩), .pointer (some ad), .int .u64 f] :=
    .hnd (FR.append h1 (.int .nil))
  have := FR.agg (n := 3) hf rfl .nil
  exact VR.of_PR (v := .agg 3 _) ⟨_, this, by simp [pack, AV.isAgg]⟩

theorem isNil_run {u : AV} {c : Value} {b : Bool} (h : VR E u c) (hb : isNilAV u = some b) : (match c with | .chan none | .nilFunc | .nilIface | .map none | .pointer none | .slice none _ _ => (pure (.bool true) : Sem Value) | _ => pure (.bool false)) = pure (.bool b) := by
  cases u <;> simp only [isNilAV, Option.some.injEq, reduceCtorEq] at hb <;> subst hb
  · obtain ⟨cs, h1, rfl⟩ := (show PR E .nilp c from h)
    cases h1 with | nilp h1 => cases h1; rfl
  · obtain ⟨ad, rfl, _⟩ := PR.ptr_inv (show PR E (.ptr _) c from h)
    rfl
  · obtain ⟨b, o, c1, rfl, _⟩ := PR.iptr_inv (show PR E (.iptr _) c from h)
    rfl
  · obtain ⟨cs, h1, rfl⟩ := (show PR E .nils c from h)
    cases h1 with | nils h1 => cases h1; rfl
  · obtain ⟨cs, h1, rfl⟩ := (show PR E (.hnd _ _) c from h)
    cases h1 with | hnd h1 => cases h1; rfl

theorem loadVar_run {t : TypeId} {ad : Addr} {c : Value} (h : (Instr.loadAt t (.pointer (some ad))).run P w = .ok c w) : (loadVar t ad).run P w = .ok c w := by
  simpa [Instr.loadAt, Instr.sureAddr] using h

theorem extAV_ok {n0 : Nat} {k : Nat} {args : List AV} {v : AV} {H' : Heap} {e : Bool} (h : extAV P k args H = some (v, H', e)) (hs : Sim B E H w) (hn : n0 ≤ H.length) {cargs : List Value} (hl : args.length = cargs.length)
    (hv : ∀ (i : Nat) (v : AV) (c : Value), args[i]? = some v → cargs[i]? = some c → VR E v c) :
    ∃ c w' E', (rowOf k cargs.toArray).run P w = .ok c w' ∧ Res B n0 E H w v H' e E' w' c := by
  have one : ∀ {x : AV}, args = [x] → ∃ cx, cargs = [cx] ∧ VR E x cx := fun {x} hx => by
    subst hx
    match cargs, hl with
    | [cx], _ => exact ⟨cx, rfl, hv 0 x cx rfl rfl⟩
  unfold extAV at h
  split at h
  · -- TypeOf, nil
    obtain ⟨rfl, rfl, rfl⟩ := by simpa using h
    obtain ⟨cx, rfl, hx⟩ := one rfl
    obtain ⟨cs, h1, rfl⟩ := (show PR E .nili cx from hx)
    cases h1 with
    | nili h1 =>
    cases h1
    exact ⟨.nilIface, w, E, rfl, Res.same hs (VR.of_PR (v := .nili) ⟨_, .nili .nil, rfl⟩)⟩
  · rename_i t u
    simp only [Option.map_eq_some_iff, Prod.mk.injEq] at h
    obtain ⟨c, hc, rfl, rfl, rfl⟩ := h
    obtain ⟨cx, rfl, hx⟩ := one rfl
    obtain ⟨cu, rfl, _⟩ := PR.iface_inv (show PR E (.iface t u) cx from hx)
    exact ⟨c, w, E, peel_run _ _ hc w, Res.same hs (reabs_ok c)⟩
  · -- ValueOf
    rename_i t u
    split at h
    · rename_i hp
      simp only [Option.map_eq_some_iff, Prod.mk.injEq] at h
      obtain ⟨kd, hkd, rfl, rfl, rfl⟩ := h
      obtain ⟨cx, rfl, hx⟩ := one rfl
      obtain ⟨cu, rfl, hu⟩ := PR.iface_inv (show PR E (.iface t u) cx from hx)
      obtain ⟨h1, h2⟩ := newVar_ok (P := P) hs hn (t := t) hu.cells
      refine ⟨.agg #[.pointer (some ⟨P.globals.size, t, none⟩), .pointer (some ⟨w.heap.size, 0, none⟩), .int .u64 (Int.ofNat (kd + 128 + 0))], _, _, ?_, ⟨h2.sim, val_vr h2.val, h2.tr, h2.len, h2.sub⟩⟩
      show (do ReflectliteValue.mk t (← newVar t cu) 0 : Sem Value).run P w = _
      simp only [Sem.run_bind, h1, Result.andThen_ok]
      exact mk_run hkd _
    · simp at h
  · -- Type
    rename_i x
    simp only [Option.bind_eq_some_iff, Option.map_eq_some_iff, Prod.mk.injEq, Prod.exists] at h
    obtain ⟨t, p, f, hx, c, hc, rfl, rfl, rfl⟩ := h
    obtain ⟨cx, rfl, hxv⟩ := one rfl
    obtain ⟨ad, rfl, hp, hf⟩ := valOf_ok hxv hx
    refine ⟨c, w, E, ?_, Res.same hs (reabs_ok c)⟩
    simp only [rowOf]
    rw [methodAny_run (parts_run hf w)]
    exact peel_run _ _ hc w
  · -- IsNil
    rename_i x
    simp only [Option.bind_eq_some_iff, Prod.exists] at h
    obtain ⟨t, p, f, hx, _, hnp, h⟩ := h
    split at h
    · rename_i hk
      simp only [Option.bind_eq_some_iff, Option.map_eq_some_iff, Prod.mk.injEq] at h
      obtain ⟨u, hu, b, hb, rfl, rfl, rfl⟩ := h
      obtain ⟨cx, rfl, hxv⟩ := one rfl
      obtain ⟨ad, rfl, hp, hf⟩ := valOf_ok hxv hx
      obtain ⟨cu, k1, k2, _⟩ := load_ok hs hp hu
      have k3 := loadVar_run k1
      refine ⟨.bool b, w, E, ?_, Res.same hs VR.bool⟩
      have hnp' := peel_run _ _ hnp w
      simp only [rowOf]
      rw [method_run (parts_run hf w) hnp', hk]
      have h22 : ReflectliteValue.isNil t ad f 22 = (loadVar t ad >>= fun c => match c with | .chan none | .nilFunc | .nilIface | .map none | .pointer none | .slice none _ _ => (pure (.bool true) : Sem Value) | _ => pure (.bool false)) := rfl
      rw [h22, Sem.run_bind, k3, Result.andThen_ok, isNil_run (VR.of_PR k2) hb]
      rfl
    · simp at h
  · -- Elem
    rename_i x
    simp only [Option.bind_eq_some_iff, Prod.exists] at h
    obtain ⟨t, p, f, hx, _, hnp, h⟩ := h
    split at h
    · rename_i hk
      simp only [Option.bind_eq_some_iff] at h
      obtain ⟨u, hu, e', he', h⟩ := h
      obtain ⟨cx, rfl, hxv⟩ := one rfl
      obtain ⟨ad, rfl, hp, hf⟩ := valOf_ok hxv hx
      obtain ⟨cu, k1, k2, _⟩ := load_ok hs hp hu
      have k3 := loadVar_run k1
      have hnp' := peel_run _ _ hnp w
      have hel := peel_run _ _ he' w
      split at h
      · rename_i q e2
        simp only [Option.map_eq_some_iff, Prod.mk.injEq] at h
        obtain ⟨kd, hkd, rfl, rfl, rfl⟩ := h
        obtain ⟨ad2, rfl, _⟩ := PR.ptr_inv k2
        refine ⟨_, w, E, ?_, Res.same hs (val_vr (P := P) (VR.of_PR k2))⟩
        simp only [rowOf]
        rw [method_run (parts_run hf w) hnp', hk]
        have hm := mk_run (a := ad2) (fl := ReflectliteValue.flagAddr) hkd w
        have h22 : ReflectliteValue.elem t ad f 22 = (loadVar t ad >>= fun c => Rtype.elem? t >>= fun e => match (22 : Nat), c, e with
          | 20, i, _ => ReflectliteValue.unpack i
          | 22, .pointer none, _ => pure ReflectliteValue.zeroV
          | 22, .pointer (some p), some e => ReflectliteValue.mk e p ReflectliteValue.flagAddr
          | _, _, _ => ReflectliteValue.valueError "reflectlite.Value.Elem" 22) := rfl
        rw [h22, Sem.run_bind, k3, Result.andThen_ok, Sem.run_bind, hel, Result.andThen_ok]
        exact hm
      · simp at h
    · simp at h
  · -- Set
    rename_i x z
    simp only [Option.bind_eq_some_iff, Prod.exists] at h
    obtain ⟨t, p, f, hx, t2, p2, f2, hz, _, hnp, _, hnp2, h⟩ := h
    split at h
    · simp at h
    · rename_i hfl
      simp only [Option.bind_eq_some_iff] at h
      obtain ⟨val, hval, d, hd, h⟩ := h
      split at h
      · rename_i hdt
        subst hdt
        simp only [Option.map_eq_some_iff, Prod.mk.injEq] at h
        obtain ⟨H2, hst, rfl, rfl, rfl⟩ := h
        match cargs, hl with
        | [cx, cz], _ =>
        have hxv := hv 0 x cx rfl rfl
        have hzv := hv 1 z cz rfl rfl
        obtain ⟨ad, rfl, hp, hf⟩ := valOf_ok hxv hx
        obtain ⟨ad2, rfl, hp2, hf2⟩ := valOf_ok hzv hz
        obtain ⟨cval, k1, k2, _⟩ := load_ok hs hp2 hval
        have k3 := loadVar_run k1
        obtain ⟨w', k4, k5⟩ := store_ok (n0 := n0) hs hp (VR.of_PR k2) hst
        have k6 : (storeVar t ad cval).run P w = .ok () w' := by simpa [Instr.storeAt, Instr.sureAddr] using k4
        have hnp' := peel_run _ _ hnp w
        have hnp2' := peel_run _ _ hnp2 w
        have hd' := peel_run _ _ hd w
        have hfl' : (f / ReflectliteValue.flagAddr % 2 == 0) = false := by simpa [ReflectliteValue.flagAddr] using hfl
        refine ⟨.tuple #[], w', E, ?_, ⟨k5.sim, trivial, k5.tr, k5.len, fun he => k5.sub ?_⟩⟩
        · simp only [rowOf]
          exact set_run (parts_some (parts_run hf w) hnp') (parts_some (parts_run hf2 w) hnp2') hfl' k3 hd' k6
        · simp only [Bool.not_eq_false'] at he
          unfold storeFlag escapes
          split <;> simp [he]
      · simp at h
  all_goals first
    | (simp at h; done)
    | skip
  rename_i k' args' _ _ _ _ _ _ _ _ _ _ _ _ _
  simp only [Option.bind_eq_some_iff, Option.map_eq_some_iff, Prod.mk.injEq] at h
  obtain ⟨cs, hcs, c, hc, rfl, rfl, rfl⟩ := h
  have := concs_ok hl hv hcs
  subst this
  exact ⟨c, w, E, peel_run _ _ hc w, Res.same hs (reabs_ok c)⟩

theorem ext_ok {tab : List (Nat × Nat)} (hT : TabSound P tab) : ExtSound P B (extX P tab) := by
  intro f args H v H' e h n0 E w cargs hs hn hl hv
  unfold extX at h
  split at h
  · rename_i k hk
    have hm : (f, k) ∈ tab := by
      clear h
      induction tab with
      | nil => simp at hk
      | cons x l ih =>
        rw [List.lookup_cons] at hk
        split at hk
        · rename_i hx
          have hx' : f = x.1 := by simpa using hx
          obtain rfl := Option.some.inj hk
          rw [hx']
          exact List.mem_cons_self
        · exact List.mem_cons_of_mem _ (ih (fun y hy => hT y (List.mem_cons_of_mem _ hy)) hk)
    obtain ⟨fn, h1, h2, h3, h4, h5⟩ := hT (f, k) hm
    obtain ⟨c, w', E', k1, k2⟩ := extAV_ok (n0 := n0) h hs hn hl hv
    refine ⟨c, w', E', ?_, k2⟩
    rw [run_callFunc_extern h1 h2 h3 h4 h5, k1]
    rfl
  · simp at h

end
end Go.X
/-
  From the evaluator to a call in a world at hand: what came in is read, and never written.
-/
namespace Go.X
open Go.RowKit (Below)

section
variable {P : Program} {W : World}

/-- What came in: every cell as it stands. -/
def Env.start (W : World) : Env := ⟨fun _ => none, fun b o => W.cell? ⟨b, o, none⟩, 0, fun _ => none, 0⟩

theorem Sim.start (W : World) : Sim W.heap.size (Env.start W) [] W :=
  ⟨rfl, fun i bk h => by simp [Heap.blk, blkOf] at h, fun i L h => by simp [Env.start] at h, fun i j Li Lj h => by simp [Env.start] at h, fun b o c h => h, fun b o c _ ⟨i, L, h, _⟩ => by simp [Env.start] at h, fun i bk h => by simp [Heap.blk, blkOf] at h, Nat.le_refl _, fun i es h => by simp [Heap.mp, mpOf] at h, fun i b h => by simp [Env.start] at h, fun i j b h => by simp [Env.start] at h⟩

theorem run_law {U : Out} {ann : FuncId → FAnn} {fuel n : Nat} {K : Oracle} (hK : ∀ B, OracleSound P B U.G K) (hX : ∀ B, ExtSound P B U.X) (hm : P.follows .mixedOrders = true) (hA : ∀ f, funcOk P (ann f) f = true)
    (hG : GlobOk U.G (Env.start W)) {f : FuncId} {args : List AV} {cargs : List Value} {H' : Heap} {e : Bool} (h : evalN P U ann fuel K n f args [] = some (.bool true, H', e)) (hl : args.length = cargs.length)
    (hv : ∀ (i : Nat) (v : AV) (c : Value), args[i]? = some v → cargs[i]? = some c → VR (Env.start W) v c) :
    Calls P f cargs.toArray W fun en w' => en = .returned (.bool true) ∧ Below W.heap.size W w' := by
  refine (evalN_ok (hK W.heap.size) (hX _) hm hA n f args [] _ H' e h (Env.start W) W cargs (Sim.start W) hG hl hv).mono ?_
  rintro en w' ⟨c, E', rfl, hr⟩
  have := hr.val.bool_inv
  subst this
  exact ⟨rfl, hr.tr.below⟩

theorem none_sound (B : Nat) (G : Nat → Option AV) : OracleSound P B G (fun _ _ _ => none) := fun f args H v H' e h => by simp at h

theorem all_ok {ann : FuncId → FAnn} (h : ((List.range P.funcs.size).all fun f => funcOk P (ann f) f) = true) (f : FuncId) : funcOk P (ann f) f = true := by
  rcases Nat.lt_or_ge f P.funcs.size with hlt | hge
  · exact List.all_eq_true.1 h f (List.mem_range.2 hlt)
  · unfold funcOk
    rw [Array.getElem?_eq_none hge]
    rfl

end
end Go.X
