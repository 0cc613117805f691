/-
  How abstract values and memory stand for the model's: the relations, and what keeps them.
-/
import Derived.Test.YtiiddampachhlaaX2
import Derived.Below
namespace Go.X
open Go.RowKit (Below)

/-- Where a block lies. -/
structure Loc where
  b : Nat
  base : Nat
  ext : Nat
  gen : Nat

structure Env where
  loc : Nat → Option Loc
  m : Nat → Nat → Option Value
  top : Nat

def pack (v : AV) (cs : List Value) : Value := if v.isAgg then .agg cs.toArray else cs.headD undef

/-- Values, flat, and the cells that they are. -/
inductive FR (E : Env) : List AV → List Value → Prop
  | nil : FR E [] []
  | int {k : IntKind} {n : Int} {vs : List AV} {cs : List Value} : FR E vs cs → FR E (.int k n :: vs) (.int k n :: cs)
  | bool {b : Bool} {vs : List AV} {cs : List Value} : FR E vs cs → FR E (.bool b :: vs) (.bool b :: cs)
  | str {s : ByteArray} {vs : List AV} {cs : List Value} : FR E vs cs → FR E (.str s :: vs) (.string s :: cs)
  | nilp {vs : List AV} {cs : List Value} : FR E vs cs → FR E (.nilp :: vs) (.pointer none :: cs)
  | nils {vs : List AV} {cs : List Value} : FR E vs cs → FR E (.nils :: vs) (.slice none 0 0 :: cs)
  | nilm {vs : List AV} {cs : List Value} : FR E vs cs → FR E (.nilm :: vs) (.map none :: cs)
  | nilf {vs : List AV} {cs : List Value} : FR E vs cs → FR E (.nilf :: vs) (.nilFunc :: cs)
  | hnd {b t : Nat} {vs : List AV} {cs : List Value} : FR E vs cs → FR E (.hnd b t :: vs) (.pointer (some ⟨b, t, none⟩) :: cs)
  | nili {vs : List AV} {cs : List Value} : FR E vs cs → FR E (.nili :: vs) (.nilIface :: cs)
  | ptr {p : Pl} {a : Addr} {vs : List AV} {cs : List Value} : p.id < E.top →
      (∀ L, E.loc p.id = some L → p.gen < L.gen ∨ (p.gen = L.gen ∧ a = ⟨L.b, L.base + p.coff, none⟩)) →
      FR E vs cs → FR E (.ptr p :: vs) (.pointer (some a) :: cs)
  | sl {p : Pl} {esz n off len cap : Nat} {a : Addr} {vs : List AV} {cs : List Value} : p.id < E.top → len ≤ cap →
      (∀ L, E.loc p.id = some L → p.gen < L.gen ∨ (p.gen = L.gen ∧ n ≤ off + cap ∧ p.coff + (off + cap) * esz ≤ L.ext ∧ (cap = 0 ∨ a = ⟨L.b, L.base + p.coff + off * esz, none⟩))) →
      a.spot = none → FR E vs cs → FR E (.sl p esz n off len :: vs) (.slice (some a) len cap :: cs)
  | isl {e : Nat} {xs : List AV} {c1 : List Value} {b o cap : Nat} {sp : Option Nat} {vs : List AV} {cs : List Value} : reflessL xs = true → FR E xs c1 → (∀ x ∈ xs, x.flatLen = e) → xs.length ≤ cap →
      (∀ j c, c1[j]? = some c → E.m b (o + j) = some c) → (sp = none ∨ xs = []) → FR E vs cs → FR E (.isl e xs :: vs) (.slice (some ⟨b, o, sp⟩) xs.length cap :: cs)
  | iptr {v : AV} {c1 : List Value} {b o : Nat} {vs : List AV} {cs : List Value} : v.refless = true → FR E [v] c1 →
      (∀ j c, c1[j]? = some c → E.m b (o + j) = some c) → FR E vs cs → FR E (.iptr v :: vs) (.pointer (some ⟨b, o, none⟩) :: cs)
  | func {fn : Fn} {xs ys : List AV} {cx cy : List Value} {vs : List AV} {cs : List Value} : (∀ x ∈ xs ++ ys, x.isAgg = false) → FR E xs cx → FR E ys cy →
      FR E vs cs → FR E (.func fn xs ys :: vs) (.func fn cx.toArray cy.toArray :: cs)
  | iface {t : TypeId} {v : AV} {c1 : List Value} {vs : List AV} {cs : List Value} : FR E [v] c1 → FR E vs cs → FR E (.iface t v :: vs) (.iface t (pack v c1) :: cs)
  | agg {n : Nat} {ps : List AV} {c1 : List Value} {vs : List AV} {cs : List Value} : FR E ps c1 → n = c1.length → FR E vs cs → FR E (.agg n ps :: vs) (c1 ++ cs)
  | arr {e : Nat} {xs : List AV} {c1 : List Value} {vs : List AV} {cs : List Value} : FR E xs c1 → (∀ x ∈ xs, x.flatLen = e) → FR E vs cs → FR E (.arr e xs :: vs) (c1 ++ cs)

/-- A value that may lie in memory. -/
def PR (E : Env) (v : AV) (c : Value) : Prop := ∃ cs, FR E [v] cs ∧ c = pack v cs

/-- Any value: of what is 'bad' nothing is known. -/
def VR (E : Env) (v : AV) (c : Value) : Prop :=
  match v with
  | .bad => True
  | .undf => c = undef
  | .tuple vs => ∃ cvs : List Value, c = .tuple cvs.toArray ∧ vs.length = cvs.length ∧ ∀ (i : Nat) (v : AV) (c : Value), vs[i]? = some v → cvs[i]? = some c → v = .bad ∨ PR E v c
  | v => PR E v c

theorem sumLen_append (a b : List AV) : sumLen (a ++ b) = sumLen a + sumLen b := by
  induction a with
  | nil => simp [sumLen]
  | cons x xs ih => simp [sumLen, ih]; omega

theorem sumLen_same {e : Nat} : ∀ {xs : List AV}, (∀ x ∈ xs, x.flatLen = e) → sumLen xs = e * xs.length
  | [], _ => by simp [sumLen]
  | x :: xs, h => by
    have := sumLen_same (fun y hy => h y (List.mem_cons_of_mem _ hy))
    simp [sumLen, this, h x (List.mem_cons_self), Nat.mul_add]; omega

theorem FR.length {E : Env} {vs : List AV} {cs : List Value} (h : FR E vs cs) : cs.length = sumLen vs := by
  induction h with
  | nil => rfl
  | agg h1 hn h2 ih1 ih2 => simp [sumLen, AV.flatLen, hn, ih2]
  | arr h1 he h2 ih1 ih2 => simp [sumLen, AV.flatLen, ih1, ih2, sumLen_same he]
  | _ => simp_all [sumLen, AV.flatLen]; try omega

theorem FR.append {E : Env} {vs us : List AV} {cs ds : List Value} (h : FR E vs cs) (k : FR E us ds) : FR E (vs ++ us) (cs ++ ds) := by
  induction h with
  | nil => exact k
  | int h ih => exact .int ih
  | bool h ih => exact .bool ih
  | str h ih => exact .str ih
  | nilp h ih => exact .nilp ih
  | nils h ih => exact .nils ih
  | nilm h ih => exact .nilm ih
  | nilf h ih => exact .nilf ih
  | hnd h ih => exact .hnd ih
  | nili h ih => exact .nili ih
  | ptr h1 h2 h ih => exact .ptr h1 h2 ih
  | sl h1 h2 h3 hs h ih => exact .sl h1 h2 h3 hs ih
  | isl h1 h2 h3 h4 h5 h6 h ih1 ih => exact .isl h1 h2 h3 h4 h5 h6 ih
  | iptr h1 h2 h3 h ih1 ih => exact .iptr h1 h2 h3 ih
  | func h1 h2 h3 h ih1 ih2 ih => exact .func h1 h2 h3 ih
  | iface h1 h ih1 ih => exact .iface h1 ih
  | agg h1 hn h ih1 ih => rw [List.cons_append, List.append_assoc]; exact .agg h1 hn ih
  | arr h1 hn h ih1 ih => rw [List.cons_append, List.append_assoc]; exact .arr h1 hn ih

theorem FR.cons_inv {E : Env} {v : AV} {vs : List AV} {cs : List Value} (h : FR E (v :: vs) cs) : ∃ c1 c2, cs = c1 ++ c2 ∧ FR E [v] c1 ∧ FR E vs c2 := by
  cases h with
  | int h => exact ⟨[_], _, rfl, .int .nil, h⟩
  | bool h => exact ⟨[_], _, rfl, .bool .nil, h⟩
  | str h => exact ⟨[_], _, rfl, .str .nil, h⟩
  | nilp h => exact ⟨[_], _, rfl, .nilp .nil, h⟩
  | nils h => exact ⟨[_], _, rfl, .nils .nil, h⟩
  | nilm h => exact ⟨[_], _, rfl, .nilm .nil, h⟩
  | nilf h => exact ⟨[_], _, rfl, .nilf .nil, h⟩
  | hnd h => exact ⟨[_], _, rfl, .hnd .nil, h⟩
  | nili h => exact ⟨[_], _, rfl, .nili .nil, h⟩
  | ptr h1 h2 h => exact ⟨[_], _, rfl, .ptr h1 h2 .nil, h⟩
  | sl h1 h2 h3 hs h => exact ⟨[_], _, rfl, .sl h1 h2 h3 hs .nil, h⟩
  | isl h1 h2 h3 h4 h5 h6 h => exact ⟨[_], _, rfl, .isl h1 h2 h3 h4 h5 h6 .nil, h⟩
  | iptr h1 h2 h3 h => exact ⟨[_], _, rfl, .iptr h1 h2 h3 .nil, h⟩
  | func h1 h2 h3 h => exact ⟨[_], _, rfl, .func h1 h2 h3 .nil, h⟩
  | iface h1 h => exact ⟨[_], _, rfl, .iface h1 .nil, h⟩
  | agg h1 hn h => exact ⟨_, _, rfl, by have := FR.agg h1 hn (FR.nil); simpa using this, h⟩
  | arr h1 hn h => exact ⟨_, _, rfl, by have := FR.arr h1 hn (FR.nil); simpa using this, h⟩

theorem FR.append_inv {E : Env} : ∀ {vs us : List AV} {cs : List Value}, FR E (vs ++ us) cs → ∃ c1 c2, cs = c1 ++ c2 ∧ FR E vs c1 ∧ FR E us c2
  | [], us, cs, h => ⟨[], cs, rfl, .nil, h⟩
  | v :: vs, us, cs, h => by
    obtain ⟨c1, c2, rfl, h1, h2⟩ := FR.cons_inv (show FR E (v :: (vs ++ us)) cs from h)
    obtain ⟨d1, d2, rfl, k1, k2⟩ := FR.append_inv h2
    exact ⟨c1 ++ d1, d2, by simp, FR.append h1 k1, k2⟩

theorem FR.cons {E : Env} {v : AV} {vs : List AV} {c1 c2 : List Value} (h : FR E [v] c1) (k : FR E vs c2) : FR E (v :: vs) (c1 ++ c2) := FR.append h k

theorem FR.agg_inv {E : Env} {n : Nat} {ps : List AV} {cs : List Value} (h : FR E [.agg n ps] cs) : FR E ps cs ∧ n = cs.length := by
  generalize hv : [AV.agg n ps] = vs at h
  cases h with
  | agg h1 hn h2 =>
    obtain ⟨⟨rfl, rfl⟩, rfl⟩ := by simpa using hv
    cases h2
    simpa using ⟨h1, hn⟩
  | _ => simp at hv

theorem FR.arr_inv {E : Env} {e : Nat} {xs : List AV} {cs : List Value} (h : FR E [.arr e xs] cs) : FR E xs cs ∧ ∀ x ∈ xs, x.flatLen = e := by
  generalize hv : [AV.arr e xs] = vs at h
  cases h with
  | arr h1 hn h2 =>
    obtain ⟨⟨rfl, rfl⟩, rfl⟩ := by simpa using hv
    cases h2
    simpa using ⟨h1, hn⟩
  | _ => simp at hv

/-- The part at i of a list of values. -/
theorem FR.nth {E : Env} {vs : List AV} {cs : List Value} (h : FR E vs cs) {i : Nat} {v : AV} (hi : vs[i]? = some v) :
    ∃ pre mid post, cs = pre ++ mid ++ post ∧ pre.length = sumLen (vs.take i) ∧ FR E [v] mid ∧ FR E (vs.take i) pre ∧ FR E (vs.drop (i + 1)) post := by
  have hlt : i < vs.length := by
    rcases Nat.lt_or_ge i vs.length with h | h
    · exact h
    · simp [List.getElem?_eq_none h] at hi
  have hv : vs[i] = v := by simpa [List.getElem?_eq_getElem hlt] using hi
  have hsplit : vs = vs.take i ++ ([v] ++ vs.drop (i + 1)) := by
    rw [← hv]
    simp
  rw [hsplit] at h
  obtain ⟨pre, r, rfl, h1, h2⟩ := FR.append_inv h
  obtain ⟨mid, post, rfl, h3, h4⟩ := FR.append_inv h2
  exact ⟨pre, mid, post, by simp, h1.length, h3, h1, h4⟩

theorem AV.flatLen_one {v : AV} : sumLen [v] = v.flatLen := by simp [sumLen]

theorem at_spec {E : Env} : ∀ (path : List Nat) (v : AV) (cs : List Value) (o : Nat) (u : AV), FR E [v] cs → v.at? path = some (o, u) →
    ∃ pre mid post, cs = pre ++ mid ++ post ∧ pre.length = o ∧ FR E [u] mid
  | [], v, cs, o, u, h, ha => by
    have : (0, v) = (o, u) := by cases v <;> simpa [AV.at?] using ha
    obtain ⟨rfl, rfl⟩ := by simpa using this
    exact ⟨[], cs, [], by simp, rfl, h⟩
  | i :: r, v, cs, o, u, h, ha => by
    cases v with
    | agg n ps =>
      simp only [AV.at?, Option.bind_eq_some_iff, Option.map_eq_some_iff, Prod.exists, Prod.mk.injEq] at ha
      obtain ⟨p, hp, o', u', hr, rfl, rfl⟩ := ha
      obtain ⟨pre, mid, post, rfl, hl, hm, _, _⟩ := h.agg_inv.1.nth hp
      obtain ⟨pre', mid', post', rfl, hl', hm'⟩ := at_spec r p mid o' u' hm hr
      exact ⟨pre ++ pre', mid', post' ++ post, by simp, by simp [hl, hl'], hm'⟩
    | arr e xs =>
      simp only [AV.at?, Option.bind_eq_some_iff, Option.map_eq_some_iff, Prod.exists, Prod.mk.injEq] at ha
      obtain ⟨p, hp, o', u', hr, rfl, rfl⟩ := ha
      obtain ⟨hx, he⟩ := h.arr_inv
      obtain ⟨pre, mid, post, rfl, hl, hm, _, _⟩ := hx.nth hp
      obtain ⟨pre', mid', post', rfl, hl', hm'⟩ := at_spec r p mid o' u' hm hr
      have hi : i < xs.length := by
        rcases Nat.lt_or_ge i xs.length with h | h
        · exact h
        · simp [List.getElem?_eq_none h] at hp
      have hs : sumLen (xs.take i) = e * i := by
        rw [sumLen_same (fun x hx => he x (List.mem_of_mem_take hx))]
        simp [Nat.min_eq_left (Nat.le_of_lt hi)]
      exact ⟨pre ++ pre', mid', post' ++ post, by simp, by simp [hl, hl', hs], hm'⟩
    | _ => simp [AV.at?] at ha

theorem FR.set {E : Env} {vs : List AV} {pre mid' post : List Value} {i : Nat} {v v' : AV} (hi : vs[i]? = some v)
    (hpre : FR E (vs.take i) pre) (hmid : FR E [v'] mid') (hpost : FR E (vs.drop (i + 1)) post) : FR E (vs.set i v') (pre ++ mid' ++ post) := by
  have hlt : i < vs.length := by
    rcases Nat.lt_or_ge i vs.length with h | h
    · exact h
    · simp [List.getElem?_eq_none h] at hi
  rw [List.set_eq_take_append_cons_drop, if_pos hlt, List.append_assoc]
  exact FR.append hpre (FR.cons hmid hpost)

theorem put_spec {E : Env} : ∀ (path : List Nat) (v : AV) (cs : List Value) (o : Nat) (u u' v' : AV) (mid' : List Value), FR E [v] cs → v.at? path = some (o, u) →
    v.put? path u' = some v' → FR E [u'] mid' →
    ∃ pre mid post, cs = pre ++ mid ++ post ∧ pre.length = o ∧ FR E [u] mid ∧ mid'.length = mid.length ∧ FR E [v'] (pre ++ mid' ++ post) ∧ v'.flatLen = v.flatLen
  | [], v, cs, o, u, u', v', mid', h, ha, hp, hm => by
    have h1 : (0, v) = (o, u) := by cases v <;> simpa [AV.at?] using ha
    obtain ⟨rfl, rfl⟩ := by simpa using h1
    have h2 : v.flatLen = u'.flatLen ∧ u' = v' := by cases v <;> simpa [AV.put?] using hp
    obtain ⟨hl, rfl⟩ := h2
    exact ⟨[], cs, [], by simp, rfl, h, by rw [hm.length, h.length]; simp [sumLen, hl], by simpa using hm, hl.symm⟩
  | i :: r, v, cs, o, u, u', v', mid', h, ha, hp, hm => by
    cases v with
    | agg n ps =>
      simp only [AV.at?, Option.bind_eq_some_iff, Option.map_eq_some_iff, Prod.exists, Prod.mk.injEq] at ha
      obtain ⟨p, hpi, o', u1, hr, rfl, rfl⟩ := ha
      simp only [AV.put?, Option.bind_eq_some_iff, Option.map_eq_some_iff] at hp
      obtain ⟨p1, hpi1, p', hput, rfl⟩ := hp
      obtain rfl : p = p1 := by rw [hpi] at hpi1; exact Option.some.inj hpi1
      obtain ⟨hps, hn⟩ := h.agg_inv
      obtain ⟨pre, mid, post, rfl, hl, hmid, hpre, hpost⟩ := hps.nth hpi
      obtain ⟨pre', m', post', rfl, hl', hm1, hlen, hv', hfl⟩ := put_spec r p mid o' u1 u' p' mid' hmid hr hput hm
      refine ⟨pre ++ pre', m', post' ++ post, by simp, by simp [hl, hl'], hm1, hlen, ?_, rfl⟩
      have hset := FR.set (v' := p') hpi hpre hv' hpost
      have := FR.agg (n := n) (vs := []) (cs := []) hset (by simp [hn, hlen]) .nil
      simpa using this
    | arr e xs =>
      simp only [AV.at?, Option.bind_eq_some_iff, Option.map_eq_some_iff, Prod.exists, Prod.mk.injEq] at ha
      obtain ⟨p, hpi, o', u1, hr, rfl, rfl⟩ := ha
      simp only [AV.put?, Option.bind_eq_some_iff, Option.map_eq_some_iff] at hp
      obtain ⟨p1, hpi1, p', hput, rfl⟩ := hp
      obtain rfl : p = p1 := by rw [hpi] at hpi1; exact Option.some.inj hpi1
      obtain ⟨hx, he⟩ := h.arr_inv
      obtain ⟨pre, mid, post, rfl, hl, hmid, hpre, hpost⟩ := hx.nth hpi
      obtain ⟨pre', m', post', rfl, hl', hm1, hlen, hv', hfl⟩ := put_spec r p mid o' u1 u' p' mid' hmid hr hput hm
      have hi : i < xs.length := by
        rcases Nat.lt_or_ge i xs.length with h | h
        · exact h
        · simp [List.getElem?_eq_none h] at hpi
      have hs : sumLen (xs.take i) = e * i := by
        rw [sumLen_same (fun x hx => he x (List.mem_of_mem_take hx))]
        simp [Nat.min_eq_left (Nat.le_of_lt hi)]
      have hset := FR.set (v' := p') hpi hpre hv' hpost
      have hep : p.flatLen = e := he p (List.mem_of_getElem? hpi)
      refine ⟨pre ++ pre', m', post' ++ post, by simp, by simp [hl, hl', hs], hm1, hlen, ?_, by simp [AV.flatLen]⟩
      have := FR.arr (vs := []) (cs := []) hset (e := e) (by
        intro x hx'
        rcases List.mem_or_eq_of_mem_set hx' with h | h
        · exact he x h
        · rw [h, hfl, hep]) .nil
      simpa using this
    | _ => simp [AV.at?] at ha

/-! ### Later environments -/

/-- Below number k nothing was turned but by what grew, or was given up; what does not change has not changed. -/
structure Evol (k : Nat) (E E' : Env) : Prop where
  loc : ∀ i, i < k → ∀ L', E'.loc i = some L' → ∃ L, E.loc i = some L ∧ (L' = L ∨ L.gen < L'.gen)
  m : ∀ b o c, E.m b o = some c → E'.m b o = some c

theorem Evol.refl (k : Nat) (E : Env) : Evol k E E := ⟨fun _ _ L h => ⟨L, h, .inl rfl⟩, fun _ _ _ h => h⟩
theorem Evol.trans {k : Nat} {E E1 E2 : Env} (h : Evol k E E1) (g : Evol k E1 E2) : Evol k E E2 := by
  refine ⟨fun i hi L' hL' => ?_, fun b o c hc => g.m b o c (h.m b o c hc)⟩
  obtain ⟨L1, h1, h2⟩ := g.loc i hi L' hL'
  obtain ⟨L, h3, h4⟩ := h.loc i hi L1 h1
  refine ⟨L, h3, ?_⟩
  rcases h2 with rfl | h2
  · exact h4
  · rcases h4 with rfl | h4
    · exact .inr h2
    · exact .inr (by omega)
theorem Evol.mono {k k' : Nat} {E E' : Env} (h : Evol k E E') (hk : k' ≤ k) : Evol k' E E' := ⟨fun i hi => h.loc i (by omega), h.m⟩

/-- A value goes on, whose references are all below k. -/
theorem FR.evol {k : Nat} {E E' : Env} (he : Evol k E E') (hk : k ≤ E'.top) {vs : List AV} {cs : List Value} (h : FR E vs cs) (hr : ∀ r ∈ refsL vs, r < k) : FR E' vs cs := by
  induction h with
  | nil => exact .nil
  | int h ih => exact .int (ih (by simpa [refsL, AV.refs] using hr))
  | bool h ih => exact .bool (ih (by simpa [refsL, AV.refs] using hr))
  | str h ih => exact .str (ih (by simpa [refsL, AV.refs] using hr))
  | nilp h ih => exact .nilp (ih (by simpa [refsL, AV.refs] using hr))
  | nils h ih => exact .nils (ih (by simpa [refsL, AV.refs] using hr))
  | nilm h ih => exact .nilm (ih (by simpa [refsL, AV.refs] using hr))
  | nilf h ih => exact .nilf (ih (by simpa [refsL, AV.refs] using hr))
  | hnd h ih => exact .hnd (ih (by simpa [refsL, AV.refs] using hr))
  | nili h ih => exact .nili (ih (by simpa [refsL, AV.refs] using hr))
  | @ptr p a vs cs h1 h2 h ih =>
    have hp : p.id < k := hr _ (by simp [refsL, AV.refs])
    refine .ptr (by omega) (fun L hL => ?_) (ih (fun r h => hr r (by simp [refsL, AV.refs, h])))
    obtain ⟨L0, h0, h3⟩ := he.loc _ hp L hL
    rcases h2 L0 h0 with h4 | h4 <;> rcases h3 with rfl | h3
    · exact .inl h4
    · exact .inl (by omega)
    · exact .inr h4
    · exact .inl (by omega)
  | @sl p esz n off len cap a vs cs h1 hlc h2 hs h ih =>
    have hp : p.id < k := hr _ (by simp [refsL, AV.refs])
    refine .sl (by omega) hlc (fun L hL => ?_) hs (ih (fun r h => hr r (by simp [refsL, AV.refs, h])))
    obtain ⟨L0, h0, h3⟩ := he.loc _ hp L hL
    rcases h2 L0 h0 with h4 | h4 <;> rcases h3 with rfl | h3
    · exact .inl h4
    · exact .inl (by omega)
    · exact .inr h4
    · exact .inl (by omega)
  | isl h1 h2 h3 h4 h5 h6 h ih1 ih =>
    refine .isl h1 (ih1 ?_) h3 h4 (fun j c hc => he.m _ _ _ (h5 j c hc)) h6 (ih (by simpa [refsL, AV.refs] using hr))
    intro r hr'
    exact absurd hr' (by rw [refsL_of_refless h1]; simp)
  | iptr h1 h2 h3 h ih1 ih =>
    refine .iptr h1 (ih1 ?_) (fun j c hc => he.m _ _ _ (h3 j c hc)) (ih (by simpa [refsL, AV.refs] using hr))
    intro r hr'
    exact absurd hr' (by simp [refsL, refs_of_refless h1])
  | func h1 h2 h3 h ih1 ih2 ih =>
    exact .func h1 (ih1 (fun r h => hr r (by simp [refsL, AV.refs, h]))) (ih2 (fun r h => hr r (by simp [refsL, AV.refs, h]))) (ih (fun r h => hr r (by simp [refsL, h])))
  | iface h1 h ih1 ih => exact .iface (ih1 (fun r h => hr r (by simp [refsL] at h; simp [refsL, AV.refs, h]))) (ih (fun r h => hr r (by simp [refsL, h])))
  | agg h1 hn h ih1 ih => exact .agg (ih1 (fun r h => hr r (by simp [refsL, AV.refs, h]))) hn (ih (fun r h => hr r (by simp [refsL, h])))
  | arr h1 hn h ih1 ih => exact .arr (ih1 (fun r h => hr r (by simp [refsL, AV.refs, h]))) hn (ih (fun r h => hr r (by simp [refsL, h])))
where
  refs_of_refless : ∀ {v : AV}, v.refless = true → v.refs = []
    | .bad, h | .int _ _, h | .bool _, h | .str _, h | .nilp, h | .nils, h | .nilm, h | .nilf, h | .hnd _ _, h | .nili, h | .iptr _, h | .isl _ _, h => by simp [AV.refs]
    | .ptr _, h | .sl _ _ _ _ _, h | .map _, h | .func _ _ _, h | .tuple _, h => by simp [AV.refless] at h
    | .iface _ v, h => by simp only [AV.refs]; exact refs_of_refless (by simpa [AV.refless] using h)
    | .agg _ ps, h => by simp only [AV.refs]; exact refsL_of_refless (by simpa [AV.refless] using h)
    | .arr _ ps, h => by simp only [AV.refs]; exact refsL_of_refless (by simpa [AV.refless] using h)
  refsL_of_refless : ∀ {vs : List AV}, reflessL vs = true → refsL vs = []
    | [], _ => rfl
    | v :: vs, h => by
      simp only [reflessL, Bool.and_eq_true] at h
      simp [refsL, refs_of_refless h.1, refsL_of_refless h.2]
end Go.X
