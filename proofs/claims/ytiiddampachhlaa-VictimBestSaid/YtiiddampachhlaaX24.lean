/-
  Regions that draw their order: whichever is drawn, the end is the notes' one. The states on the way.
-/
import Derived.Test.YtiiddampachhlaaX23
namespace Go.X
open Go.RowKit (Below)

section
variable {C : Ctx} {B : Nat} {E0 E E' : Env} {H0 : Heap} {w0 : World} {s s0 sf : St} {a : Act} {w w' : World} {Q : Exit → Act → World → Prop} {ops : Array Oper}

/-- An operation that makes one block, in whatever memory. -/
theorem alloc_shape {op : Op} {ty : TypeId} {v : AV} {H' : Heap} {e : Bool} (ha : isAllocOp op = true) (h : evalOp C s op ty = some (v, H', e)) :
    ∃ (mk : Nat → AV) (bk : Blk), (∀ H2, evalOp C { s with H := H2 } op ty = some (mk H2.length, H2 ++ [some bk], false)) ∧
      ((∃ g, mk = fun id => .ptr ⟨id, 0, [], g⟩) ∨ ∃ g sz n, mk = fun id => .sl ⟨id, 0, [], g⟩ sz n 0 n) := by
  have hevf : ∀ H2, St.eval C.A { s with H := H2 } = s.eval C.A := fun H2 => funext (fun x => by cases x <;> rfl)
  cases op <;> simp only [isAllocOp, reduceCtorEq] at ha <;> simp only [evalOp, hevf] at h ⊢
  case alloc t =>
    simp only [Option.map_eq_some_iff] at h
    obtain ⟨z, hz, _⟩ := h
    exact ⟨fun id => .ptr ⟨id, 0, [], z.flatLen⟩, ⟨z, false, z.refless⟩, fun H2 => by rw [hz]; rfl, .inl ⟨_, rfl⟩⟩
  case box t x =>
    split at h
    · rename_i hp
      exact ⟨fun id => .ptr ⟨id, 0, [], (s.eval C.A x).flatLen⟩, ⟨s.eval C.A x, false, (s.eval C.A x).refless⟩, fun H2 => by rw [if_pos hp]; rfl, .inl ⟨_, rfl⟩⟩
    · simp at h
  case buildSlice t len ps =>
    split at h
    · rename_i el hu
      simp only [Option.bind_eq_some_iff] at h
      obtain ⟨sz, hsz, h⟩ := h
      split at h
      · rename_i hc
        simp only [Option.map_eq_some_iff] at h
        obtain ⟨r, hr, _⟩ := h
        exact ⟨fun id => .sl ⟨id, 0, [], sz * len⟩ sz len 0 len, ⟨r, true, r.refless⟩, fun H2 => by
          rw [hsz]
          simp only [Option.bind_some]
          rw [if_pos hc, hr]
          rfl, .inr ⟨_, _, _, rfl⟩⟩
      · simp at h
    · simp at h
  case makeSlice t l c =>
    split at h
    · rename_i el hu
      simp only [Option.bind_eq_some_iff] at h
      obtain ⟨sz, hsz, by_, hby, nl, hl, nc, hc, z, hz, h⟩ := h
      split at h
      · rename_i hh
        exact ⟨fun id => .sl ⟨id, 0, [], sz * nl⟩ sz nl 0 nl, ⟨.arr sz (List.replicate nl z), true, true⟩, fun H2 => by
          rw [hsz, hby, hl, hc, hz]
          simp only [Option.bind_some]
          rw [if_pos hh]
          rfl, .inr ⟨_, _, _, rfl⟩⟩
      · simp at h
    · simp at h

theorem mk_move {mk : Nat → AV} (hm : (∃ g, mk = fun id => .ptr ⟨id, 0, [], g⟩) ∨ ∃ g sz n, mk = fun id => .sl ⟨id, 0, [], g⟩ sz n 0 n) {id : Nat} {L : Loc} {c : Value} (hv : VR E (mk id) c) (hL : E.loc id = some L) {E2 : Env} {T : Nat}
    (h2 : E2.loc T = some L) (hT : T < E2.top) : VR E2 (mk T) c := by
  rcases hm with ⟨g, rfl⟩ | ⟨g, sz, n, rfl⟩
  · obtain ⟨cs, h1, rfl⟩ := (show PR E (.ptr ⟨id, 0, [], g⟩) c from hv)
    refine VR.of_PR (v := .ptr ⟨T, 0, [], g⟩) ?_
    cases h1 with
    | ptr k1 k2 k3 => exact ⟨_, .ptr hT (fun L' hL' => by
        obtain rfl : L = L' := by rw [h2] at hL'; exact Option.some.inj hL'
        exact k2 L hL) .nil, rfl⟩
  · obtain ⟨cs, h1, rfl⟩ := (show PR E (.sl ⟨id, 0, [], g⟩ sz n 0 n) c from hv)
    refine VR.of_PR (v := .sl ⟨T, 0, [], g⟩ sz n 0 n) ?_
    cases h1 with
    | sl k1 k2 k3 k4 k5 => exact ⟨_, .sl hT k2 (fun L' hL' => by
        obtain rfl : L = L' := by rw [h2] at hL'; exact Option.some.inj hL'
        exact k3 L hL) k4 .nil, rfl⟩

def dead (ops : Array Oper) (listed : Array Bool) (t : Nat) : Bool :=
  (List.range ops.size).any fun i => !listed.getD i true && ((ops.toList[i]?).bind (·.dst)) == some t

def pendB (ops : Array Oper) (listed : Array Bool) (L2 : List Nat) (t : Nat) : Bool :=
  L2.any fun y => listed.getD y false && ((ops.toList[y]?).bind (·.dst)) == some t

/-- The state on the way: what is written has its last value, what is not its first one; of what was made early nothing is told. -/
def stAt (pend dead : Nat → Bool) (s0 sf : St) (h : Heap × Bool) : St :=
  { L := (s0.L ++ sf.L).map fun x => (x.1, if pend x.1 then .bad else if dead x.1 then look s0.L x.1 else look sf.L x.1)
    T := sf.T.map fun x => (x.1, if pend x.1 || dead x.1 then .bad else look sf.T x.1)
    H := h.1, esc := h.2 }

theorem look_fun (g : Nat → AV) (t : Nat) : ∀ (l : List (Nat × AV)), look (l.map fun x => (x.1, g x.1)) t = g t ∨ (look (l.map fun x => (x.1, g x.1)) t = .bad ∧ ∀ x ∈ l, x.1 ≠ t)
  | [] => .inr ⟨rfl, by simp⟩
  | (k, v) :: l => by
    simp only [List.map_cons, look]
    split
    · rename_i hk
      subst hk
      exact .inl rfl
    · rename_i hk
      rcases look_fun g t l with h | ⟨h1, h2⟩
      · exact .inl h
      · refine .inr ⟨h1, fun x hx => ?_⟩
        rcases List.mem_cons.1 hx with rfl | hx
        · exact hk
        · exact h2 x hx

theorem look_none {t : Nat} : ∀ {l : List (Nat × AV)}, (∀ x ∈ l, x.1 ≠ t) → look l t = .bad
  | [], _ => rfl
  | (k, v) :: l, h => by
    simp only [look]
    rw [if_neg (h (k, v) List.mem_cons_self)]
    exact look_none (fun x hx => h x (List.mem_cons_of_mem _ hx))

theorem stAt_get (pend dead : Nat → Bool) (h0 : s0.T = []) (h : Heap × Bool) (A : FAnn) (t : Nat) : (stAt pend dead s0 sf h).get A t = if pend t then .bad else if dead t then s0.get A t else sf.get A t := by
  unfold St.get stAt
  split
  · simp only
    rcases look_fun (fun k => if pend k then .bad else if dead k then look s0.L k else look sf.L k) t (s0.L ++ sf.L) with h1 | ⟨h1, h2⟩
    · exact h1
    · rw [h1]
      have e1 : look s0.L t = .bad := look_none (fun x hx => h2 x (List.mem_append.2 (.inl hx)))
      have e2 : look sf.L t = .bad := look_none (fun x hx => h2 x (List.mem_append.2 (.inr hx)))
      rw [e1, e2]
      split <;> simp
  · simp only [h0]
    rcases look_fun (fun k => if pend k || dead k then .bad else look sf.T k) t sf.T with h1 | ⟨h1, h2⟩
    · rw [h1]
      cases pend t <;> cases dead t <;> simp [look]
    · rw [h1]
      have e2 : look sf.T t = .bad := look_none h2
      rw [e2]
      simp [look]

theorem dead_true {listed : Array Bool} {t : Nat} : dead ops listed t = true ↔ ∃ i o, i < ops.size ∧ listed.getD i true = false ∧ ops.toList[i]? = some o ∧ o.dst = some t := by
  unfold dead
  simp only [List.any_eq_true, List.mem_range, Bool.and_eq_true, Bool.not_eq_true', beq_iff_eq, Option.bind_eq_some_iff]
  constructor
  · rintro ⟨i, h1, h2, o, h3, h4⟩
    exact ⟨i, o, h1, h2, h3, h4⟩
  · rintro ⟨i, o, h1, h2, h3, h4⟩
    exact ⟨i, h1, h2, o, h3, h4⟩

theorem dead_false {listed : Array Bool} {t : Nat} (h : ¬ ∃ i o, i < ops.size ∧ listed.getD i true = false ∧ ops.toList[i]? = some o ∧ o.dst = some t) : dead ops listed t = false := by
  cases hd : dead ops listed t
  · rfl
  · exact absurd (dead_true.1 hd) h

theorem pend_true {listed : Array Bool} {L2 : List Nat} {t : Nat} : pendB ops listed L2 t = true ↔ ∃ y o, y ∈ L2 ∧ listed.getD y false = true ∧ ops.toList[y]? = some o ∧ o.dst = some t := by
  unfold pendB
  simp only [List.any_eq_true, Bool.and_eq_true, beq_iff_eq, Option.bind_eq_some_iff]
  constructor
  · rintro ⟨i, h1, h2, o, h3, h4⟩
    exact ⟨i, o, h1, h2, h3, h4⟩
  · rintro ⟨i, o, h1, h2, h3, h4⟩
    exact ⟨i, h1, h2, o, h3, h4⟩

theorem pend_false {listed : Array Bool} {L2 : List Nat} {t : Nat} (h : ¬ ∃ y o, y ∈ L2 ∧ listed.getD y false = true ∧ ops.toList[y]? = some o ∧ o.dst = some t) : pendB ops listed L2 t = false := by
  cases hd : pendB ops listed L2 t
  · rfl
  · exact absurd (pend_true.1 hd) h

theorem not_both {listed : Array Bool} {i : Nat} (h : listed.getD i true = false) : ¬ listed.getD i false = true := by
  intro h2
  rcases Nat.lt_or_ge i listed.size with h' | h'
  · simp [h'] at h h2; rw [h] at h2; simp at h2
  · simp [Array.getElem?_eq_none h'] at h2

theorem either {listed : Array Bool} {i : Nat} (hi : i < listed.size) : listed.getD i true = false ∨ listed.getD i false = true := by
  simp [hi]

/-- All that the notes' check gives. -/
structure Facts (C : Ctx) (ops : Array Oper) (an : RAnn) : Prop where
  uniq : ∀ (i j : Nat) (o o' : Oper) (d : Nat), ops.toList[i]? = some o → ops.toList[j]? = some o' → o.dst = some d → o'.dst = some d → i = j
  all : ∀ i, i < ops.size → i ∈ an.order
  place : ∀ pre i post, an.order = pre ++ i :: post → Place ops.toList (fun j => j ∈ pre) i
  avail : ∀ (i j t : Nat) (oi oj : Oper), ops.toList[j]? = some oj → oj.dst = some t → ops.toList[i]? = some oi → t ∈ readsOf ops.toList oi → Bef ops.toList j i ∨ (Bef ops.toList i j ∧ isRead oi.op = false)
  pairs : (an.order.filter (loudAt C.P ops.toList)).Pairwise (Pair ops.toList an.flo)
  reads : ∃ tab, TabOk ops.toList tab ∧ ∀ pre i post o, an.order = pre ++ i :: post → ops.toList[i]? = some o → isLoud C.P o.op = false → isRead o.op = true → ∀ p, p ≤ (an.order.filter (loudAt C.P ops.toList)).length →
      p = (pre.filter (loudAt C.P ops.toList)).length ∨ p ∈ (an.chk.lookup i).getD [] ∨ possible tab (an.order.filter (loudAt C.P ops.toList)) i p = false

theorem facts {an : RAnn} (h : regionOk C.P ops.toList an = true) : Facts C ops an := by
  unfold regionOk at h
  simp only [Bool.and_eq_true, List.all_eq_true, List.mem_range] at h
  obtain ⟨⟨h1, h2⟩, h3⟩ := h
  split at h3
  · rename_i tab htab
    simp only [Bool.and_eq_true] at h3
    obtain ⟨k1, k2⟩ := ancTab_ok an.order [] tab (fun i x h => by simp at h) htab
    have hpl : ∀ pre i post, an.order = pre ++ i :: post → Place ops.toList (fun j => j ∈ pre) i := fun pre i post h => by
      obtain ⟨⟨o, g1, g2⟩, g4⟩ := k2 pre i post h
      exact ⟨⟨o, g1, fun j hj => (g2 j hj).resolve_right (by simp)⟩, fun hh => g4 (.inl hh)⟩
    refine ⟨dstsOk_ok _ h1, fun i hi => ?_, hpl, fun i j t oi oj hj hd hi hr => avail_ok k1 h3.1.1 hj hd hi hr, pairs_ok k1 _ h3.1.2, tab, k1, fun pre i post o ho hi hl hr p hp => ?_⟩
    · have := h2 i (by simpa using hi)
      simpa using this
    · have := readsOk_ok an.order 0 h3.2 pre i post o ho hi hl hr p hp
      simpa using this
  · simp at h3

/-- A block that was made early. -/
structure Pend (C : Ctx) (B : Nat) (w0 : World) (mk : Nat → AV) (bk : Blk) (E : Env) (w : World) (L : Loc) (d : Nat) (c : Value) : Prop where
  blk : BlkAt E bk L w
  low : B ≤ L.b
  out : ∀ b o, L.has b o → w0.heap.size ≤ b ∧ b < w.heap.size ∧ ¬ InE E b o ∧ E.m b o = none
  val : d < C.N → ∀ (E2 : Env) (T : Nat), E2.loc T = some L → T < E2.top → VR E2 (mk T) c

theorem Pend.later {mk : Nat → AV} {bk : Blk} {L : Loc} {d k : Nat} {c : Value} (h : Pend C B w0 mk bk E w L d c) (hr : bk.root.refs = []) (ht : Tr B k E w E' w') : Pend C B w0 mk bk E' w' L d c := by
  refine ⟨h.blk.later (k := 0) (ht.evol.mono (Nat.zero_le _)) (Nat.zero_le _) (by simp [hr]) (fun j hj => ?_), h.low, fun b o hb => ?_, h.val⟩
  · have := h.out L.b (L.base + j) ⟨rfl, by omega, by omega⟩
    exact ht.frame _ _ this.2.1 this.2.2.1
  · obtain ⟨h1, h2, h3, h4⟩ := h.out b o hb
    refine ⟨h1, Nat.lt_of_lt_of_le h2 ht.below.size, fun hin => h3 (ht.ext b o h2 hin), ?_⟩
    cases hm : E'.m b o with
    | none => rfl
    | some c' =>
      rcases ht.imm b o c' h2 hm with k | k
      · rw [h4] at k; simp at k
      · exact absurd k h3

/-- What the notes' order makes of an operation that may come early. -/
structure Canon (C : Ctx) (ops : Array Oper) (an : RAnn) (s0 : St) (y : Nat) (o : Oper) (d : Nat) (mk : Nat → AV) (bk : Blk) : Prop where
  op : ops.toList[y]? = some o
  guard : o.guard = none
  dst : o.dst = some d
  bare : bk.root.refs = []
  run : ∀ pre post si hs', an.order = pre ++ y :: post → runOrd C ops.toList an.flo pre s0 = some (si, hs') → evalOp C si o.op o.type = some (mk si.H.length, si.H ++ [some bk], false)

structure Core (C : Ctx) (B : Nat) (E0 : Env) (H0 : Heap) (w0 : World) (ops : Array Oper) (an : RAnn) (s0 sf : St) (hv : List (Heap × Bool)) (listed : Array Bool) (L1 L2 : List Nat) (h : Heap × Bool) (pl : Nat → Option Loc) (E : Env) (a : Act) (w : World) : Prop where
  louds : an.order.filter (loudAt C.P ops.toList) = L1 ++ L2
  l1 : ∀ x ∈ L1, listed.getD x false = true
  hv : hv[L1.length]? = some h
  iv : IV C B E0 H0 w0 E (stAt (pendB ops listed L2) (dead ops listed) s0 sf h) a w
  pds : ∀ y ∈ L2, listed.getD y false = true → ∃ o d mk bk L, Canon C ops an s0 y o d mk bk ∧ pl y = some L ∧ Pend C B w0 mk bk E w L d (a.tmps.getD d undef)
  apart : ∀ y y' L L', y ≠ y' → pl y = some L → pl y' = some L' → ∀ b o, L.has b o → ¬ L'.has b o
  mem : ∀ y L, pl y = some L → y ∈ L2 ∧ listed.getD y false = true

structure Inv (C : Ctx) (B : Nat) (E0 : Env) (H0 : Heap) (w0 : World) (ops : Array Oper) (an : RAnn) (s0 sf : St) (hv : List (Heap × Bool)) (listed : Array Bool) (E : Env) (a : Act) (w : World) : Prop where
  size : listed.size = ops.size
  down : Down ops.toList (fun i => listed.getD i false = true)
  mid : ∃ L1 L2 h pl, Core C B E0 H0 w0 ops an s0 sf hv listed L1 L2 h pl E a w ∧ ∀ x r, L2 = x :: r → listed.getD x true = false

theorem filter_at {α : Type} {f : α → Bool} : ∀ {l L1 L2 : List α} {x : α}, l.filter f = L1 ++ x :: L2 → ∃ pre post, l = pre ++ x :: post ∧ pre.filter f = L1 ∧ post.filter f = L2 ∧ f x = true
  | [], L1, L2, x, h => by simp at h
  | y :: l, L1, L2, x, h => by
    rw [List.filter_cons] at h
    split at h
    · rename_i hy
      cases L1 with
      | nil =>
        simp only [List.nil_append, List.cons.injEq] at h
        obtain ⟨rfl, rfl⟩ := h
        exact ⟨[], l, rfl, rfl, rfl, hy⟩
      | cons z L1 =>
        simp only [List.cons_append, List.cons.injEq] at h
        obtain ⟨rfl, h⟩ := h
        obtain ⟨pre, post, rfl, h1, h2, h3⟩ := filter_at h
        exact ⟨y :: pre, post, rfl, by rw [List.filter_cons, if_pos hy, h1], h2, h3⟩
    · rename_i hy
      obtain ⟨pre, post, rfl, h1, h2, h3⟩ := filter_at h
      exact ⟨y :: pre, post, rfl, by rw [List.filter_cons, if_neg hy, h1], h2, h3⟩

theorem split_eq {x : Nat} : ∀ {p1 p2 q1 q2 : List Nat}, x ∉ p1 → x ∉ p2 → p1 ++ x :: q1 = p2 ++ x :: q2 → p1 = p2 ∧ q1 = q2
  | [], [], q1, q2, _, _, h => by simpa using h
  | [], y :: p2, q1, q2, _, h2, h => by
    simp only [List.nil_append, List.cons_append, List.cons.injEq] at h
    exact absurd h.1 (fun e => h2 (by rw [e]; exact List.mem_cons_self))
  | y :: p1, [], q1, q2, h1, _, h => by
    simp only [List.nil_append, List.cons_append, List.cons.injEq] at h
    exact absurd h.1.symm (fun e => h1 (by rw [e]; exact List.mem_cons_self))
  | y :: p1, z :: p2, q1, q2, h1, h2, h => by
    simp only [List.cons_append, List.cons.injEq] at h
    obtain ⟨h3, h4⟩ := split_eq (fun hh => h1 (List.mem_cons_of_mem _ hh)) (fun hh => h2 (List.mem_cons_of_mem _ hh)) h.2
    exact ⟨by rw [h.1, h3], h4⟩

theorem Facts.once {an : RAnn} (F : Facts C ops an) {pre post : List Nat} {i : Nat} (h : an.order = pre ++ i :: post) : i ∉ pre ∧ i ∉ post := by
  refine ⟨(F.place pre i post h).new, fun hj => ?_⟩
  obtain ⟨q1, q2, rfl⟩ := List.append_of_mem hj
  exact (F.place (pre ++ i :: q1) i q2 (by rw [h]; simp)).new (by simp)

theorem Facts.loudOnce {an : RAnn} (F : Facts C ops an) {L1 L2 : List Nat} {x : Nat} (h : an.order.filter (loudAt C.P ops.toList) = L1 ++ x :: L2) : x ∉ L1 ∧ x ∉ L2 := by
  obtain ⟨pre, post, hord, h1, h2, _⟩ := filter_at h
  obtain ⟨k1, k2⟩ := F.once hord
  exact ⟨fun hh => k1 (by rw [← h1] at hh; exact (List.mem_filter.1 hh).1), fun hh => k2 (by rw [← h2] at hh; exact (List.mem_filter.1 hh).1)⟩

theorem Facts.loudLt {an : RAnn} {x : Nat} (hx : x ∈ an.order.filter (loudAt C.P ops.toList)) : ∃ o, ops.toList[x]? = some o ∧ x < ops.size := by
  have := (List.mem_filter.1 hx).2
  unfold loudAt at this
  split at this
  · rename_i o ho
    refine ⟨o, ho, ?_⟩
    have := (List.getElem?_eq_some_iff.1 ho).1
    simpa using this
  · simp at this

end
end Go.X
