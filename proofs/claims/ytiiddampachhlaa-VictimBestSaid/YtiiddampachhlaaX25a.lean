/-
  Regions that draw their order: one operation.
-/
import Derived.Test.YtiiddampachhlaaX25
namespace Go.X
open Go.RowKit (Below)

section
variable {C : Ctx} {B : Nat} {E0 E E' : Env} {H0 : Heap} {w0 : World} {s s0 sf : St} {a : Act} {w w' : World} {Q : Exit → Act → World → Prop} {ops : Array Oper}

/-- What stays of a block made early, when the memory goes on. -/
theorem pds_later {an : RAnn} {listed : Array Bool} {L2 : List Nat} {pl : Nat → Option Loc} {k : Nat} {dst : Option Nat} {c : Value}
    (h : ∀ y ∈ L2, listed.getD y false = true → ∃ o d mk bk L, Canon C ops an s0 y o d mk bk ∧ pl y = some L ∧ Pend C B w0 mk bk E w L d (a.tmps.getD d undef)) (ht : Tr B k E w E' w')
    (hd : ∀ y ∈ L2, listed.getD y false = true → ∀ o, ops.toList[y]? = some o → o.dst = none ∨ o.dst ≠ dst) :
    ∀ y ∈ L2, listed.getD y false = true → ∃ o d mk bk L, Canon C ops an s0 y o d mk bk ∧ pl y = some L ∧ Pend C B w0 mk bk E' w' L d ((a.put dst c).tmps.getD d undef) := by
  intro y hy hl
  obtain ⟨o, d, mk, bk, L, hc, hp, hP⟩ := h y hy hl
  refine ⟨o, d, mk, bk, L, hc, hp, ?_⟩
  rw [put_get (by
    rcases hd y hy hl o hc.op with h1 | h1
    · rw [hc.dst] at h1; simp at h1
    · rw [hc.dst] at h1; exact fun e => h1 e.symm)]
  exact hP.later hc.bare ht

/-- What a new block's coming early leaves behind. -/
theorem early {mk : Nat → AV} {bk : Blk} {d : Nat} {c : Value} {H : Heap} (hI : IV C B E0 H0 w0 E s a w) (hsH : s.H = H) (hm : (∃ g, mk = fun id => .ptr ⟨id, 0, [], g⟩) ∨ ∃ g sz n, mk = fun id => .sl ⟨id, 0, [], g⟩ sz n 0 n) (hbare : bk.root.refs = [])
    (hr : Res B C.n0 E s.H w (mk H.length) (H ++ [some bk]) false E' w' c) :
    ∃ E2 L, Sim B E2 H w' ∧ Tr B H.length E w E2 w' ∧ Pend C B w0 mk bk E2 w' L d c ∧ ∀ b o, L.has b o → w.heap.size ≤ b := by
  subst hsH
  have hs := hI.sr.sim
  have hblk : ∀ i, Heap.blk (s.H ++ [some bk]) i = if i = s.H.length then some bk else s.H.blk i := fun i => Heap.blk_append
  obtain ⟨L, hL, hB, hlow⟩ := hr.sim.live s.H.length bk (by rw [hblk, if_pos rfl])
  have hltop : ∀ i, i < s.H.length → ∀ bki, s.H.blk i = some bki → (s.H ++ [some bk]).blk i = some bki := fun i hi bki hb => by rw [hblk, if_neg (by omega)]; exact hb
  have hless := hr.sim.less (E' := ⟨fun i => if (s.H.blk i).isSome then E'.loc i else none, E'.m, s.H.length⟩) (H' := s.H) rfl (fun i bki hi => by
      have hlt := Heap.blk_some hi
      refine ⟨hltop i hlt bki hi, fun r hrr => ?_⟩
      obtain ⟨Li, _, hBi, _⟩ := hs.live i bki hi
      have := hBi.refs_lt r hrr
      rw [hs.top] at this
      exact this) (fun i => rfl) (fun _ _ _ h => h) (fun b o c hc => ⟨hr.sim.imm b o c hc, fun ⟨i, Li, hi, hh⟩ => by
      simp only at hi
      split at hi
      · exact hr.sim.immApart b o c hc ⟨i, Li, hi, hh⟩
      · simp at hi⟩) (fun _ _ _ h => .inl h)
  have hnew : ∀ b o, L.has b o → w.heap.size ≤ b := fun b o hb => by
    rcases Nat.lt_or_ge b w.heap.size with hlt | hge
    · exfalso
      obtain ⟨j, Lj, hj, hjh⟩ := hr.tr.ext b o hlt ⟨_, L, hL, hb⟩
      obtain ⟨bj, hbj⟩ := hs.dead j Lj hj
      have hjlt := Heap.blk_some hbj
      obtain ⟨Lj2, hj2, hBj2, _⟩ := hr.sim.live j bj (hltop j hjlt bj hbj)
      obtain ⟨L0, hL0, hor⟩ := hr.tr.evol.loc j hjlt Lj2 hj2
      obtain rfl : Lj = L0 := by rw [hj] at hL0; exact Option.some.inj hL0
      obtain ⟨Lj', hj', hBj, _⟩ := hs.live j bj hbj
      obtain rfl : Lj = Lj' := by rw [hj] at hj'; exact Option.some.inj hj'
      obtain ⟨cs1, f1, g1, _⟩ := hBj.cs
      obtain ⟨cs2, f2, g2, _⟩ := hBj2.cs
      have e1 := f1.length
      have e2 := f2.length
      have hgen : Lj.gen = Lj2.gen := by omega
      have hsame : Lj2 = Lj := hor.resolve_right (by omega)
      subst hsame
      exact hr.sim.apart j s.H.length Lj2 L hj2 hL (by omega) b o hjh hb
    · exact hge
  refine ⟨_, L, hless.1, hr.tr.trans (hless.2 _), ⟨hB.later (k := 0) ((hless.2 0).evol) (Nat.zero_le _) (by simp [hbare]) (fun _ _ => ⟨rfl, rfl⟩), hlow, fun b o hb => ⟨?_, ?_, ?_, ?_⟩, fun _ E2 T h2 hT => mk_move hm hr.val hL h2 hT⟩, hnew⟩
  · exact Nat.le_trans hI.tr.below.size (hnew b o hb)
  · obtain ⟨h1, h2, h3⟩ := hb
    have h4 := (hB.room (o - L.base) (by omega)).1
    obtain ⟨c', hc'⟩ := Option.isSome_iff_exists.1 h4
    have := World.block_lt_of_cell? w' _ hc'
    rw [← h1]
    exact this
  · rintro ⟨i, Li, hi, hh⟩
    simp only at hi
    split at hi
    · rename_i his
      obtain ⟨bi, hbi⟩ := Option.isSome_iff_exists.1 his
      have := Heap.blk_some hbi
      exact hr.sim.apart i s.H.length Li L hi hL (by omega) b o hh hb
    · simp at hi
  · cases hm' : E'.m b o with
    | none => rfl
    | some c' => exact absurd ⟨_, L, hL, hb⟩ (hr.sim.immApart b o c' hm')

theorem op_step (hK : Snd C B E0) {an : RAnn} (F : Facts C ops an) (hT : s0.T = []) {hs : List (Heap × Bool)} (hrun : runOrd C ops.toList an.flo an.order s0 = some (sf, hs)) (hchk : chkAll C ops.toList sf ((s0.H, s0.esc) :: hs) an.chk = true)
    {listed : Array Bool} (hI : Inv C B E0 H0 w0 ops an s0 sf ((s0.H, s0.esc) :: hs) listed E a w) {i : Nat} (hi : i ∈ Region.ready .any ops listed) {K : Act → World → Prop}
    (hn : ∀ E' a' w', Inv C B E0 H0 w0 ops an s0 sf ((s0.H, s0.esc) :: hs) (listed.setIfInBounds i true) E' a' w' → K a' w') : wpOp C.P ops Q i K a w := by
  obtain ⟨hsize, hdown, L1, L2, h, pl, ⟨hL, hL1, hh, hIV, hpds, hap, hmem⟩, hhead⟩ := hI
  obtain ⟨hun, o, ho, hpre⟩ := mem_ready.1 hi
  have hin : i < ops.size := (Array.getElem?_eq_some_iff.1 ho).1
  have hoL : ops.toList[i]? = some o := by simpa using ho
  have hprecs : ∀ j ∈ precs o, listed.getD j false = true := fun j hj => by
    simp only [precs, List.mem_filterMap] at hj
    obtain ⟨e, he, hj⟩ := hj
    split at hj
    · rename_i hb
      obtain rfl := Option.some.inj hj
      exact hpre e (by simpa using he) hb
    · simp at hj
  have hbefi : ∀ x, Bef ops.toList x i → listed.getD x false = true := fun x hb => hb _ o hdown hoL hprecs
  have hbefl : ∀ x y, listed.getD y false = true → (∃ oy, ops.toList[y]? = some oy) → Bef ops.toList x y → listed.getD x false = true := fun x y hy ⟨oy, hoy⟩ hb => hb _ oy hdown hoy (hdown y oy hy hoy)
  -- the place in the notes' order
  obtain ⟨pre, post, hord⟩ := List.append_of_mem (F.all i hin)
  obtain ⟨o2, si, hspre, si', hspost, g1, g2, g3, g3', g4, hhs⟩ := runOrd_split pre i post s0 sf hs (hord ▸ hrun)
  obtain rfl : o = o2 := by rw [hoL] at g1; exact Option.some.inj g1
  obtain ⟨glen, glast⟩ := runOrd_len pre s0 si hspre g2
  obtain ⟨⟨o3, p1, p2⟩, pnew⟩ := F.place pre i post hord
  obtain rfl : o = o3 := by rw [hoL] at p1; exact Option.some.inj p1
  have hpd : Down ops.toList (fun j => j ∈ pre) := fun j oj hj hoj k hk => by
    obtain ⟨q1, q2, rfl⟩ := List.append_of_mem hj
    obtain ⟨⟨o4, r1, r2⟩, _⟩ := F.place q1 j (q2 ++ i :: post) (by rw [hord]; simp)
    obtain rfl : oj = o4 := by rw [hoj] at r1; exact Option.some.inj r1
    exact List.mem_append.2 (.inl (r2 k hk))
  have hnot : ∀ j ∈ pre, j ∉ i :: post := fun j hj hj2 => by
    rcases List.mem_cons.1 hj2 with rfl | hj2
    · exact pnew hj
    · obtain ⟨q1, q2, rfl⟩ := List.append_of_mem hj2
      exact (F.place (pre ++ i :: q1) j q2 (by rw [hord]; simp)).new (List.mem_append.2 (.inl hj))
  have hnot2 : i ∉ post := (F.once hord).2
  have hfr : ∀ t, (∀ m ∈ i :: post, ∀ om, ops.toList[m]? = some om → om.dst ≠ some t) → sf.get C.A t = si.get C.A t := fun t ht => by
    rw [runOrd_get post si' sf hspost g4 t (fun m hm => ht m (List.mem_cons_of_mem _ hm)), stepOp_get g3 (ht i List.mem_cons_self o hoL)]
  -- one that came early is not read yet
  have hpendNot : ∀ y ∈ L2, listed.getD y false = true → ∀ oy t, ops.toList[y]? = some oy → oy.dst = some t → t ∉ readsOf ops.toList o := fun y hy hyl oy t hoy hyt htr => by
    cases L2 with
    | nil => simp at hy
    | cons x r =>
      have hxu := hhead x r rfl
      rcases List.mem_cons.1 hy with rfl | hyr
      · exact not_both hxu hyl
      · have hpw := F.pairs
        rw [hL] at hpw
        rcases (List.pairwise_cons.1 (List.pairwise_append.1 hpw).2.1).1 y hyr with hb | ⟨_, oy', t', hoy', _, _, hyt', hall⟩
        · exact not_both hxu (hbefl x y hyl ⟨oy, hoy⟩ hb)
        · obtain rfl : oy = oy' := by rw [hoy] at hoy'; exact Option.some.inj hoy'
          obtain rfl : t = t' := by rw [hyt] at hyt'; exact Option.some.inj hyt'
          rcases hall i o hoL htr with hb | hb
          · exact not_both hxu (hbefi x hb)
          · exact not_both hun (hbefl i y hyl ⟨oy, hoy⟩ hb)
  -- what the operation reads
  have hreads : ∀ t ∈ readsOf ops.toList o, pendB ops listed L2 t = false ∧ ((dead ops listed t = true ∧ s0.get C.A t = si.get C.A t ∧ isRead o.op = false) ∨ (dead ops listed t = false ∧ sf.get C.A t = si.get C.A t)) := fun t ht => by
    refine ⟨pend_false ?_, ?_⟩
    · rintro ⟨y, oy, hy, hyl, hoy, hyt⟩
      exact hpendNot y hy hyl oy t hoy hyt ht
    · by_cases hw : ∃ (j : Nat) (oj : Oper), ops.toList[j]? = some oj ∧ oj.dst = some t
      · obtain ⟨j, oj, hoj, hjt⟩ := hw
        have hjlt : j < ops.size := by
          have := (List.getElem?_eq_some_iff.1 hoj).1
          simpa using this
        rcases F.avail i j t o oj hoj hjt hoL ht with hb | ⟨hb, hrd⟩
        · right
          have hjl := hbefi j hb
          have hjp : j ∈ pre := hb _ o hpd hoL p2
          refine ⟨dead_false ?_, hfr t (fun m hm om hom hd => hnot j hjp (by rw [F.uniq _ _ _ _ _ hoj hom hjt hd]; exact hm))⟩
          rintro ⟨m, om, _, h2, h3, h4⟩
          rw [F.uniq _ _ _ _ _ h3 hoj h4 hjt] at h2
          exact not_both h2 hjl
        · left
          have hju : listed.getD j true = false := (either (by rw [hsize]; exact hjlt)).resolve_right (fun hjl => not_both hun (hbefl i j hjl ⟨oj, hoj⟩ hb))
          refine ⟨dead_true.2 ⟨j, oj, hjlt, hju, hoj, hjt⟩, ?_, hrd⟩
          refine (runOrd_get pre s0 si hspre g2 t (fun m hm om hom hd => ?_)).symm
          rw [F.uniq _ _ _ _ _ hom hoj hd hjt] at hm
          exact pnew (hb _ oj hpd hoj (hpd j oj hm hoj))
      · right
        refine ⟨dead_false ?_, hfr t (fun m hm om hom hd => hw ⟨m, om, hom, hd⟩)⟩
        rintro ⟨m, om, _, _, h3, h4⟩
        exact hw ⟨m, om, h3, h4⟩
  have hget : ∀ t ∈ readsOf ops.toList o, ∀ h, (stAt (pendB ops listed L2) (dead ops listed) s0 sf h).get C.A t = si.get C.A t := fun t ht h => by
    rw [stAt_get _ _ hT, (hreads t ht).1]
    rcases (hreads t ht).2 with ⟨k1, k2, _⟩ | ⟨k1, k2⟩
    · rw [k1]; exact k2
    · rw [k1]; exact k2
  have hev : ∀ x ∈ o.op.operands.toList, ∀ h, (stAt (pendB ops listed L2) (dead ops listed) s0 sf h).eval C.A x = si.eval C.A x := fun x hx h => by
    cases x with
    | tmp t => exact hget t (List.mem_append.2 (.inl (List.mem_filterMap.2 ⟨_, hx, rfl⟩))) h
    | _ => rfl
  have hwantg : ∀ s : St, (∀ t ∈ readsOf ops.toList o, s.get C.A t = si.get C.A t) → wantedAV C.A ops.toList s o = wantedAV C.A ops.toList si o := fun s hsg => by
    unfold wantedAV
    split
    · rfl
    · rename_i j want hg
      split
      · rename_i d hd
        rw [hsg d (by unfold readsOf; rw [hg]; simp only [hd]; simp)]
      · rfl
  -- the marks behind
  have hun2 : ∀ m, (listed.setIfInBounds i true).getD m true = false → listed.getD m true = false ∧ m ≠ i := fun m hm => by
    by_cases hmi : i = m
    · subst hmi
      simp [hsize, hin] at hm
    · rw [getD_set_ne true hmi] at hm
      exact ⟨hm, fun e => hmi e.symm⟩
  have hsize' : (listed.setIfInBounds i true).size = ops.size := by simp [hsize]
  have hseti : (listed.setIfInBounds i true).getD i false = true := by simp [hsize, hin]
  have hmono : ∀ {j}, listed.getD j false = true → (listed.setIfInBounds i true).getD j false = true := fun hj => getD_set_true hj
  have hback : ∀ j, j ≠ i → (listed.setIfInBounds i true).getD j false = true → listed.getD j false = true := fun j hji hj => by
    rwa [getD_set_ne false (fun e => hji e.symm)] at hj
  have hdown' : Down ops.toList (fun j => (listed.setIfInBounds i true).getD j false = true) := fun j oj hj hoj k hk => by
    by_cases hji : i = j
    · subst hji
      rw [hoL] at hoj
      obtain rfl := Option.some.inj hoj
      exact hmono (hprecs k hk)
    · exact hmono (hdown j oj (hback j (fun e => hji e.symm) hj) hoj k hk)
  have hdead' : ∀ t, o.dst ≠ some t → dead ops (listed.setIfInBounds i true) t = dead ops listed t := fun t ht => by
    cases hd : dead ops listed t
    · refine dead_false ?_
      rintro ⟨m, om, k1, k2, k3, k4⟩
      have : dead ops listed t = true := dead_true.2 ⟨m, om, k1, (hun2 m k2).1, k3, k4⟩
      rw [hd] at this; simp at this
    · obtain ⟨m, om, k1, k2, k3, k4⟩ := dead_true.1 hd
      have hmi : i ≠ m := fun e => by
        subst e
        rw [hoL] at k3
        obtain rfl := Option.some.inj k3
        exact ht k4
      exact dead_true.2 ⟨m, om, k1, by rw [getD_set_ne true hmi]; exact k2, k3, k4⟩
  have hpend' : ∀ (r : List Nat), (∀ y, y ∈ L2 ∧ y ≠ i ↔ y ∈ r ∧ y ≠ i) → ∀ t, o.dst ≠ some t → pendB ops (listed.setIfInBounds i true) r t = pendB ops listed L2 t := fun r hr t ht => by
    cases hd : pendB ops listed L2 t
    · refine pend_false ?_
      rintro ⟨y, oy, k1, k2, k3, k4⟩
      have hyi : y ≠ i := fun e => by
        subst e
        rw [hoL] at k3
        obtain rfl := Option.some.inj k3
        exact ht k4
      have : pendB ops listed L2 t = true := pend_true.2 ⟨y, oy, ((hr y).2 ⟨k1, hyi⟩).1, hback y hyi k2, k3, k4⟩
      rw [hd] at this; simp at this
    · obtain ⟨y, oy, k1, k2, k3, k4⟩ := pend_true.1 hd
      have hyi : y ≠ i := fun e => by
        subst e
        exact not_both hun k2
      exact pend_true.2 ⟨y, oy, ((hr y).1 ⟨k1, hyi⟩).1, hmono k2, k3, k4⟩
  have hdstP : ∀ y ∈ L2, listed.getD y false = true → ∀ oy, ops.toList[y]? = some oy → oy.dst = none ∨ oy.dst ≠ o.dst := fun y hy hyl oy hoy => by
    cases hd : oy.dst with
    | none => exact .inl rfl
    | some t =>
      right
      intro e
      have := F.uniq _ _ _ _ _ hoy hoL hd e.symm
      subst this
      exact not_both hun hyl
  have hdst : ∀ (r : List Nat), i ∉ r → ∀ d, o.dst = some d → ∀ h', (stAt (pendB ops (listed.setIfInBounds i true) r) (dead ops (listed.setIfInBounds i true)) s0 sf h').get C.A d = si'.get C.A d := fun r hir d hd h' => by
    rw [stAt_get _ _ hT]
    have h1 : pendB ops (listed.setIfInBounds i true) r d = false := pend_false (by
      rintro ⟨y, oy, k1, _, k3, k4⟩
      rw [F.uniq _ _ _ _ _ k3 hoL k4 hd] at k1
      exact hir k1)
    have h2 : dead ops (listed.setIfInBounds i true) d = false := dead_false (by
      rintro ⟨m, om, _, k2, k3, k4⟩
      exact (hun2 m k2).2 (F.uniq _ _ _ _ _ k3 hoL k4 hd))
    rw [h1, h2]
    exact runOrd_get post si' sf hspost g4 d (fun m hm om hom hmd => hnot2 (by rw [F.uniq _ _ _ _ _ hoL hom hd hmd]; exact hm))
  have hother : ∀ (r : List Nat), (∀ y, y ∈ L2 ∧ y ≠ i ↔ y ∈ r ∧ y ≠ i) → ∀ t h h', o.dst ≠ some t → (stAt (pendB ops (listed.setIfInBounds i true) r) (dead ops (listed.setIfInBounds i true)) s0 sf h').get C.A t = (stAt (pendB ops listed L2) (dead ops listed) s0 sf h).get C.A t := fun r hr t h h' ht => by
    rw [stAt_get _ _ hT, stAt_get _ _ hT, hdead' t ht, hpend' r hr t ht]
  obtain ⟨b, hb, hres⟩ := stepOp_res g3
  have hsame : ∀ v H' e, si' = si.res C o.dst v H' e → ∀ d, o.dst = some d → si'.get C.A d = .bad ∨ (si'.get C.A d = v ∧ d < C.N) := fun v H' e hsi' d hd => by
    rw [hsi']
    unfold St.res
    rw [hd]
    simp only
    by_cases hdN : d < C.N
    · rw [if_pos hdN]
      exact (set_get_self).symm.imp id (fun h => ⟨h, hdN⟩)
    · rw [if_neg hdN]
      exact .inl (set_get_self.elim id id)
  have hskip : si' = (match o.dst with | some d => si.set C.A d .undf | none => si) → ∀ d, o.dst = some d → si'.get C.A d = .bad ∨ (si'.get C.A d = .undf ∧ (d < C.N ∨ undef = undef)) := fun hsi' d hd => by
    rw [hsi', hd]
    exact set_get_self.symm.imp id (fun h => ⟨h, .inr rfl⟩)
  unfold wpOp
  rw [ho]
  simp only
  rw [wanted_ok hIV.sr ((hwantg _ (fun t ht => hget t ht h)).trans hb)]
  have hlo : loudAt C.P ops.toList i = isLoud C.P o.op := by unfold loudAt; rw [hoL]
  cases hloud : isLoud C.P o.op
  · -- a quiet one
    have hi2 : i ∉ L2 := fun hx => by
      have : i ∈ an.order.filter (loudAt C.P ops.toList) := by rw [hL]; exact List.mem_append.2 (.inr hx)
      rw [List.mem_filter, hlo, hloud] at this
      simp at this
    have hmid : ∀ {E' a' w' k c}, Tr B k E w E' w' → a' = a.put o.dst c → IV C B E0 H0 w0 E' (stAt (pendB ops (listed.setIfInBounds i true) L2) (dead ops (listed.setIfInBounds i true)) s0 sf h) a' w' →
        Inv C B E0 H0 w0 ops an s0 sf ((s0.H, s0.esc) :: hs) (listed.setIfInBounds i true) E' a' w' := fun {E' a' w' k c} htr ha' hIV' => by
      subst ha'
      refine ⟨hsize', hdown', L1, L2, h, pl, ⟨hL, fun x hx => hmono (hL1 x hx), hh, hIV', fun y hy hyl => ?_, hap, fun y L hy => ⟨(hmem y L hy).1, hmono (hmem y L hy).2⟩⟩, fun x r hx => ?_⟩
      · have hyi : y ≠ i := fun e => hi2 (by rw [← e]; exact hy)
        exact pds_later hpds htr hdstP y hy (hback y hyi hyl)
      · have hxi : i ≠ x := fun e => hi2 (by rw [hx, e]; exact List.mem_cons_self)
        rw [getD_set_ne true hxi]
        exact hhead x r hx
    rcases hres with ⟨rfl, v, H', e, he, hsi'⟩ | ⟨rfl, hsi'⟩
    · simp only [if_true]
      left
      have hq := quiet_ok he hloud
      -- what it yields here
      have hhere : ∃ v', evalOp C (stAt (pendB ops listed L2) (dead ops listed) s0 sf h) o.op o.type = some (v', h.1, false) ∧ ∀ d, o.dst = some d → si'.get C.A d = .bad ∨ (si'.get C.A d = v' ∧ d < C.N) := by
        by_cases hr : isRead o.op = true
        · -- it reads: at its own place, or looked at
          by_cases hp : L1.length = (pre.filter (loudAt C.P ops.toList)).length
          · have hhe : h = (si.H, si.esc) := by
              have : ((s0.H, s0.esc) :: hs)[hspre.length]? = some (si.H, si.esc) := by
                rw [hhs, ← List.cons_append, List.getElem?_append_left (by simp)]
                exact glast
              rw [glen, ← hp, hh] at this
              exact Option.some.inj this
            subst hhe
            refine ⟨v, ?_, hsame v H' e hsi'⟩
            have h9 := evalOp_congr (C := C) (s := stAt (pendB ops listed L2) (dead ops listed) s0 sf (si.H, si.esc)) (s' := si) (op := o.op) (ty := o.type) rfl (fun x hx => hev x hx _)
            rw [h9, he, hq.1, hq.2.1]
          · have hsfg : ∀ t ∈ readsOf ops.toList o, sf.get C.A t = si.get C.A t := fun t ht => by
              rcases (hreads t ht).2 with ⟨_, _, k⟩ | ⟨_, k⟩
              · rw [hr] at k; simp at k
              · exact k
            have hevf : ∀ x ∈ o.op.operands.toList, sf.eval C.A x = si.eval C.A x := fun x hx => by
              cases x with
              | tmp t => exact hsfg t (List.mem_append.2 (.inl (List.mem_filterMap.2 ⟨_, hx, rfl⟩)))
              | _ => rfl
            obtain ⟨tab, ht, hrd⟩ := F.reads
            rcases hrd pre i post o hord hoL hloud hr L1.length (by rw [hL]; simp) with h1 | h1 | h1
            · exact absurd h1 hp
            · have hmem' : ∃ js, (i, js) ∈ an.chk ∧ L1.length ∈ js := by
                cases hlk : an.chk.lookup i with
                | none => rw [hlk] at h1; simp at h1
                | some js =>
                  rw [hlk] at h1
                  refine ⟨js, ?_, h1⟩
                  clear h1 hrd
                  revert hlk
                  generalize an.chk = l
                  intro hlk
                  induction l with
                  | nil => simp at hlk
                  | cons x l ih =>
                    rw [List.lookup_cons] at hlk
                    split at hlk
                    · rename_i hx
                      have hx' : i = x.1 := by simpa using hx
                      obtain rfl := Option.some.inj hlk
                      rw [hx']
                      exact List.mem_cons_self
                    · exact List.mem_cons_of_mem _ (ih hlk)
              obtain ⟨js, hjs, hpj⟩ := hmem'
              have hc := List.all_eq_true.1 hchk (i, js) hjs
              rw [hoL] at hc
              have hc := List.all_eq_true.1 hc L1.length hpj
              rw [hh] at hc
              simp only [chkOne] at hc
              rw [hwantg sf hsfg, hb] at hc
              simp only at hc
              split at hc
              · rename_i r hr'
                have he2 : evalOp C (stAt (pendB ops listed L2) (dead ops listed) s0 sf h) o.op o.type = some r := by
                  rw [← hr']
                  exact evalOp_congr rfl (fun x hx => (hev x hx h).trans (hevf x hx).symm)
                obtain ⟨r1, r2, r3⟩ := r
                obtain ⟨k1, k2, _⟩ := quiet_ok he2 hloud
                refine ⟨r1, by rw [he2, k1, k2]; rfl, fun d hd => ?_⟩
                rw [hd] at hc
                have hsd : sf.get C.A d = si'.get C.A d := runOrd_get post si' sf hspost g4 d (fun m hm om hom hmd => hnot2 (by rw [F.uniq _ _ _ _ _ hoL hom hd hmd]; exact hm))
                simp only [Bool.or_eq_true, Bool.and_eq_true, decide_eq_true_eq] at hc
                rw [← hsd]
                rcases hc with hc | hc
                · left
                  cases hq2 : sf.get C.A d <;> rw [hq2] at hc <;> simp [AV.isBad] at hc ⊢
                · exact .inr ⟨(AV.beq_eq _ _ hc.2).symm, hc.1⟩
              · simp at hc
            · -- not possible
              exfalso
              unfold possible at h1
              rw [hL, List.take_left, List.drop_left, Bool.and_eq_false_iff] at h1
              rcases h1 with h1 | h1
              · have : (L1.all fun x => !bef tab i x) = true := by
                  simp only [List.all_eq_true, Bool.not_eq_true']
                  intro x hx
                  cases hbx : bef tab i x
                  · rfl
                  · exfalso
                    obtain ⟨ox, hox, _⟩ := Facts.loudLt (C := C) (ops := ops) (an := an) (x := x) (by rw [hL]; exact List.mem_append.2 (.inl hx))
                    exact not_both hun (hbefl i x (hL1 x hx) ⟨ox, hox⟩ (bef_ok ht hbx))
                rw [this] at h1
                simp at h1
              · cases L2 with
                | nil => simp at h1
                | cons x r =>
                  simp only [Bool.not_eq_false'] at h1
                  exact not_both (hhead x r rfl) (hbefi x (bef_ok ht h1))
        · have hr' : isRead o.op = false := by simpa using hr
          refine ⟨v, ?_, hsame v H' e hsi'⟩
          have h1 := (quiet_ok he hloud).2.2 hr' h.1
          rw [← h1]
          exact evalOp_congr rfl (fun x hx => by rw [hev x hx h]; cases x <;> rfl)
      obtain ⟨v', hev', hd'⟩ := hhere
      refine op_ok hK.k hK.x (hK.g.evol hIV.tr.evol) hIV.sr hev' (fun E' w' c hr => hn E' _ w' (hmid hr.tr rfl (hIV.to hr rfl (by simp [stAt]) (fun t ht => .inr (hother L2 (fun y => Iff.rfl) t h h ht)) (fun d hd => ?_))))
      rw [hdst L2 hi2 d hd h]
      exact (hd' d hd).imp id (fun h => ⟨h.1, .inl h.2⟩)
    · simp only [Bool.false_eq_true, if_false]
      refine hn E _ w (hmid (k := 0) (Tr.refl _ _ _ _) rfl (hIV.to (v := .undf) (c := undef) (e := false) (Res.same hIV.sr.sim rfl) rfl (by simp [stAt]) (fun t ht => .inr (hother L2 (fun y => Iff.rfl) t h h ht)) (fun d hd => ?_)))
      rw [hdst L2 hi2 d hd h]
      exact hskip hsi' d hd
  · -- a loud one
    have hiL : i ∈ L1 ++ L2 := by
      rw [← hL]
      exact List.mem_filter.2 ⟨F.all i hin, by rw [hlo, hloud]⟩
    have hiL2 : i ∈ L2 := (List.mem_append.1 hiL).resolve_left (fun h1 => not_both hun (hL1 i h1))
    have hpw := F.pairs
    rw [hL] at hpw
    cases L2 with
    | nil => simp at hiL2
    | cons x r =>
      have hxu := hhead x r rfl
      obtain ⟨hx1, hx2⟩ := F.loudOnce hL
      by_cases hxi : x = i
      · -- its place
        subst hxi
        obtain ⟨pre2, post2, hord2, f1, f2, f3⟩ := filter_at hL
        have hpp := split_eq (F.place pre2 x post2 hord2).new pnew (hord2.symm.trans hord)
        have hlen : L1.length = hspre.length := by rw [glen, ← hpp.1, f1]
        have hhe : h = (si.H, si.esc) := by
          have : ((s0.H, s0.esc) :: hs)[hspre.length]? = some (si.H, si.esc) := by
            rw [hhs, ← List.cons_append, List.getElem?_append_left (by simp)]
            exact glast
          rw [← hlen, hh] at this
          exact Option.some.inj this
        have hnext : ((s0.H, s0.esc) :: hs)[(L1 ++ [x]).length]? = some (si'.H, si'.esc) := by
          rw [hhs, hloud]
          simp [hlen]
        have hrr : ∀ y, y ∈ x :: r ∧ y ≠ x ↔ y ∈ r ∧ y ≠ x := fun y => by
          constructor
          · rintro ⟨h1, h2⟩; exact ⟨(List.mem_cons.1 h1).resolve_left h2, h2⟩
          · rintro ⟨h1, h2⟩; exact ⟨List.mem_cons_of_mem _ h1, h2⟩
        have hmid : ∀ {E' a' w' k c}, Tr B k E w E' w' → a' = a.put o.dst c → IV C B E0 H0 w0 E' (stAt (pendB ops (listed.setIfInBounds x true) r) (dead ops (listed.setIfInBounds x true)) s0 sf (si'.H, si'.esc)) a' w' →
            ∃ E'', Inv C B E0 H0 w0 ops an s0 sf ((s0.H, s0.esc) :: hs) (listed.setIfInBounds x true) E'' a' w' := fun {E' a' w' k c} htr ha' hIV' => by
          subst ha'
          have hcore : Core C B E0 H0 w0 ops an s0 sf ((s0.H, s0.esc) :: hs) (listed.setIfInBounds x true) (L1 ++ [x]) r (si'.H, si'.esc) pl E' (a.put o.dst c) w' := by
            refine ⟨by rw [hL]; simp, fun y hy => ?_, hnext, hIV', fun y hy hyl => ?_, hap, fun y L hy => ?_⟩
            · rcases List.mem_append.1 hy with hy | hy
              · exact hmono (hL1 y hy)
              · rw [List.mem_singleton.1 hy]; exact hseti
            · have hyx : y ≠ x := fun e => hx2 (by rw [← e]; exact hy)
              exact pds_later hpds htr hdstP y (List.mem_cons_of_mem _ hy) (hback y hyx hyl)
            · obtain ⟨k1, k2⟩ := hmem y L hy
              refine ⟨(List.mem_cons.1 k1).resolve_left (fun e => ?_), hmono k2⟩
              rw [e] at k2
              exact not_both hun k2
          obtain ⟨E'', L1', L2', h', pl', k1, k2⟩ := hcore.settle F hT hrun hsize'
          exact ⟨E'', hsize', hdown', L1', L2', h', pl', k1, k2⟩
        subst hhe
        rcases hres with ⟨rfl, v, H', e, he, hsi'⟩ | ⟨rfl, hsi'⟩
        · simp only [if_true]
          left
          have hev' : evalOp C (stAt (pendB ops listed (x :: r)) (dead ops listed) s0 sf (si.H, si.esc)) o.op o.type = some (v, H', e) := by
            have h9 := evalOp_congr (C := C) (s := stAt (pendB ops listed (x :: r)) (dead ops listed) s0 sf (si.H, si.esc)) (s' := si) (op := o.op) (ty := o.type) rfl (fun y hy => hev y hy _)
            rw [h9, he]
          refine op_ok hK.k hK.x (hK.g.evol hIV.tr.evol) hIV.sr hev' (fun E' w' c hr => ?_)
          obtain ⟨E'', hInv⟩ := hmid hr.tr rfl (hIV.to (s2 := stAt (pendB ops (listed.setIfInBounds x true) r) (dead ops (listed.setIfInBounds x true)) s0 sf (si'.H, si'.esc)) hr (by show si'.H = H'; rw [hsi', St.res_H]) (by show si'.esc = (si.esc || e); rw [hsi', St.res_esc])
            (fun t ht => .inr (hother r hrr t _ _ ht)) (fun d hd => by
              rw [hdst r hx2 d hd]
              exact (hsame v H' e hsi' d hd).imp id (fun h => ⟨h.1, .inl h.2⟩)))
          exact hn E'' _ w' hInv
        · simp only [Bool.false_eq_true, if_false]
          have hHe : si'.H = si.H ∧ si'.esc = si.esc := by
            rw [hsi']
            split
            · exact ⟨St.set_H _ _ _ _, St.set_esc _ _ _ _⟩
            · exact ⟨rfl, rfl⟩
          obtain ⟨E'', hInv⟩ := hmid (k := 0) (Tr.refl _ _ _ _) rfl (hIV.to (s2 := stAt (pendB ops (listed.setIfInBounds x true) r) (dead ops (listed.setIfInBounds x true)) s0 sf (si'.H, si'.esc)) (v := .undf) (c := undef) (e := false) (Res.same hIV.sr.sim rfl)
            (by show si'.H = si.H; exact hHe.1) (by show si'.esc = (si.esc || false); rw [hHe.2]; simp) (fun t ht => .inr (hother r hrr t _ _ ht)) (fun d hd => by
              rw [hdst r hx2 d hd]
              exact hskip hsi' d hd))
          exact hn E'' _ w hInv
      · -- ahead of its place
        have hir : i ∈ r := (List.mem_cons.1 hiL2).resolve_left (fun e => hxi e.symm)
        rcases (List.pairwise_cons.1 (List.pairwise_append.1 hpw).2.1).1 i hir with hb' | ⟨hflo, oy, d, hoy, halloc, hguard, hyd, _⟩
        · exact absurd (hbefi x hb') (not_both hxu)
        · obtain rfl : o = oy := by rw [hoL] at hoy; exact Option.some.inj hoy
          have hbt : b = true := by
            unfold wantedAV at hb
            rw [hguard] at hb
            exact (Option.some.inj hb).symm
          subst hbt
          rcases hres with ⟨_, v, H', e, he, hsi'⟩ | ⟨hf, _⟩
          · simp only [if_true]
            left
            obtain ⟨mk, bk, hmk, hshape⟩ := alloc_shape halloc he
            have hevi : evalOp C si o.op o.type = some (mk si.H.length, si.H ++ [some bk], false) := hmk si.H
            have hH' : H' = si.H ++ [some bk] := by
              rw [he] at hevi
              simp only [Option.some.injEq, Prod.mk.injEq] at hevi
              exact hevi.2.1
            have hbare : bk.root.refs = [] := by
              have h1 := g3' hflo
              rw [hsi', St.res_H, hH'] at h1
              unfold lastBare at h1
              simpa using h1
            have hev' : evalOp C (stAt (pendB ops listed (x :: r)) (dead ops listed) s0 sf h) o.op o.type = some (mk h.1.length, h.1 ++ [some bk], false) := by
              rw [← hmk h.1]
              exact evalOp_congr rfl (fun y hy => by rw [hev y hy h]; cases y <;> rfl)
            refine op_ok hK.k hK.x (hK.g.evol hIV.tr.evol) hIV.sr hev' (fun E' w' c hr => ?_)
            obtain ⟨E2, L, hsim2, htr2, hP2, hfresh⟩ := early (d := d) hIV rfl hshape hbare hr
            refine hn E2 _ w' ⟨hsize', hdown', L1, x :: r, h, fun z => if z = i then some L else pl z, ⟨hL, fun y hy => hmono (hL1 y hy), hh, ⟨⟨hsim2, fun t => ?_, ?_, ?_, hIV.sr.len⟩, hIV.tr.trans (htr2.mono hIV.sr.len), hIV.sub⟩, fun y hy hyl => ?_, fun y y' Ly Ly' hyy hy hy' => ?_, fun y Ly hy => ?_⟩, fun z q hz => ?_⟩
            · have hEt : E.top = h.1.length := hIV.sr.sim.top
              have hE2t : E2.top = h.1.length := hsim2.top
              by_cases htd : o.dst = some t
              · rw [stAt_get _ _ hT]
                have : pendB ops (listed.setIfInBounds i true) (x :: r) t = true := pend_true.2 ⟨i, o, List.mem_cons_of_mem _ hir, hseti, hoL, htd⟩
                rw [this]
                trivial
              · rw [put_get htd, hother (x :: r) (fun y => Iff.rfl) t h h htd]
                have htr2' : Tr B E.top E w E2 w' := by rw [hEt]; exact htr2
                exact (hIV.sr.vals t).later htr2'.evol (by omega)
            · rw [hyd]
              simp [Act.put, hIV.sr.size]
            · rw [hyd]
              exact hIV.sr.defers
            · by_cases hyi : y = i
              · subst hyi
                refine ⟨o, d, mk, bk, L, ⟨hoL, hguard, hyd, hbare, fun pre' post' si2 hs2 hord2 hrun2 => ?_⟩, by rw [if_pos rfl], ?_⟩
                · obtain ⟨e1, e2⟩ := split_eq (F.once hord2).1 pnew (hord2.symm.trans hord)
                  subst e1
                  rw [g2] at hrun2
                  simp only [Option.some.injEq, Prod.mk.injEq] at hrun2
                  obtain ⟨rfl, rfl⟩ := hrun2
                  exact hevi
                · by_cases hdN : d < C.N
                  · have : (a.put o.dst c).tmps.getD d undef = c := by
                      have hlt : d < a.tmps.size := by rw [hIV.sr.size]; exact hdN
                      rw [hyd]
                      simp only [Act.put]
                      simp [hlt]
                    rw [this]
                    exact hP2
                  · exact ⟨hP2.blk, hP2.low, hP2.out, fun hd => absurd hd hdN⟩
              · obtain ⟨oz, dz, mkz, bkz, Lz, q1, q2, q3⟩ := pds_later (c := c) hpds htr2 hdstP y hy (hback y hyi hyl)
                exact ⟨oz, dz, mkz, bkz, Lz, q1, by rw [if_neg hyi]; exact q2, q3⟩
            · replace hy : (if y = i then some L else pl y) = some Ly := hy
              replace hy' : (if y' = i then some L else pl y') = some Ly' := hy'
              have hold : ∀ z Lz, pl z = some Lz → ∀ b o, Lz.has b o → b < w.heap.size := fun z Lz hz b o hb => by
                obtain ⟨m1, m2⟩ := hmem z Lz hz
                obtain ⟨oz, dz, mkz, bkz, Lz', q1, q2, q3⟩ := hpds z m1 m2
                obtain rfl : Lz = Lz' := by rw [hz] at q2; exact Option.some.inj q2
                exact (q3.out b o hb).2.1
              intro b o k1 k2
              split at hy <;> split at hy'
              · rename_i e1 e2
                exact hyy (by rw [e1, e2])
              · obtain rfl := Option.some.inj hy
                have := hfresh b o k1
                have := hold y' Ly' hy' b o k2
                omega
              · obtain rfl := Option.some.inj hy'
                have := hfresh b o k2
                have := hold y Ly hy b o k1
                omega
              · exact hap y y' Ly Ly' hyy hy hy' b o k1 k2
            · replace hy : (if y = i then some L else pl y) = some Ly := hy
              split at hy
              · rename_i e
                subst e
                exact ⟨List.mem_cons_of_mem _ hir, hseti⟩
              · obtain ⟨m1, m2⟩ := hmem y Ly hy
                exact ⟨m1, hmono m2⟩
            · simp only [List.cons.injEq] at hz
              obtain ⟨rfl, rfl⟩ := hz
              rw [getD_set_ne true (fun e => hxi e.symm)]
              exact hxu
          · simp at hf

end
end Go.X
