/-
  PinsApart: parts of a step of the law.
-/
import Derived.Test.YtclmndonaljppaaKai
import Derived.Test.YtclmndonaljppaaKak
import Derived.Test.YtclmndonaljppaaKaj

namespace Go.Proofs.Ytclmndonaljppaa
open Go Go.X
variable {F : Nat}
set_option maxRecDepth 100000
abbrev pP : List Bool := [true, true, true, true, true, false, true]
/-- Blocks apart. -/
def Dis (a b : List Nat) : Prop := ∀ y ∈ a, y ∉ b
theorem Dis.symm {a b : List Nat} (h : Dis a b) : Dis b a := fun y hb ha => h y ha hb
theorem Dis.next {H H2 : Heap} {i ip : Nat} {vs vs' : List AV} {B : List Nat} (d : Dis (i :: ip :: refsL vs) B) (hn : Nxt H i ip vs H2 vs') (hB : ∀ y ∈ B, y < H.length) : Dis (i :: ip :: refsL vs') B := by
  intro y hy hyB
  have hd : y ∉ i :: ip :: refsL vs := fun h => d y h hyB
  have := hB y hyB
  simp only [List.mem_cons, not_or] at hy hd
  rcases hy with hy | hy | hy
  · exact hd.1 hy
  · exact hd.2.1 hy
  · rcases hn.new y hy with h | h
    · exact hd.2.2 h
    · omega
/-- What stands in memory between the steps. -/
structure Inv6 (H : Heap) (i ip j jp : Nat) (vs ws : List AV) (ls ms : List (List Int)) : Prop where
  p1 : PinsR H i ip vs ls
  p2 : PinsR H j jp ws ms
  l1 : ls.length = 2
  l2 : ms.length = 2
  eq : ls.getD 0 [] = ms.getD 0 []
  g1 : AllGood ls
  g2 : AllGood ms
  dis : Dis (i :: ip :: refsL vs) (j :: jp :: refsL ws)
variable {N fuel m n0 : Nat} {l m2 : List Stp} {i ip j jp : Nat} {ix : Int} {k : AV → Heap → Bool → Prop} {vs ws : List AV} {ls ms : List (List Int)} {A B : AV}
theorem Inv6.keep {H H' : Heap} (x : Inv6 H i ip j jp vs ws ls ms) (hk : Keep [] H H') : Inv6 H' i ip j jp vs ws ls ms :=
  ⟨x.p1.keep' hk (by simp), x.p2.keep' hk (by simp), x.l1, x.l2, x.eq, x.g1, x.g2, x.dis⟩
theorem tail6 {H1 : Heap} (x : Inv6 H1 i ip j jp vs ws ls ms) (hk : ∀ H2, Inv6 H2 i ip j jp vs ws ls ms → resPS (S F) TL N 9 fuel 6 2 n0 [] pP m ⟨L6 A B i j (IntKind.i64.wrap (ix + 1)), [], H2, true⟩ k) :
  ∃ (i30 : Nat), ∃ (j31 : Nat), ∃ (vs32 : List AV), ∃ (ls33 : List (List Int)), ∃ (s34 : Int), And ([AV.ptr (Pl.mk i 0 [] 1), AV.int IntKind.i64 0] = [AV.ptr (Pl.mk i30 0 [] 1), AV.int IntKind.i64 s34]) (And (PinsR H1 i30 j31 vs32 ls33) (And ((¬OkS ls33 s34 ∨ List.getD ls33 (Int.toNat s34) [] = []) → ∀ (H'35 : Heap), (Keep [] H1 H'35) → ∃ (i36 : Nat), ∃ (j37 : Nat), ∃ (vs38 : List AV), ∃ (ls39 : List (List Int)), ∃ (s40 : Int), And ([AV.ptr (Pl.mk j 0 [] 1), AV.int IntKind.i64 0] = [AV.ptr (Pl.mk i36 0 [] 1), AV.int IntKind.i64 s40]) (And (PinsR H'35 i36 j37 vs38 ls39) (And ((¬OkS ls39 s40 ∨ List.getD ls39 (Int.toNat s40) [] = []) → ∀ (H'41 : Heap), (Keep [] H'35 H'41) → ∃ (v42 : AV), ∃ (w43 : AV), ∃ (l44 : List Int), ∃ (m45 : List Int), And ([AV.nils, AV.nils] = [v42, w43]) (And (Slot H'41 v42 l44) (And (Slot H'41 w43 m45) (And (List.length l44 ≤ 1000) (cond (!decide (l44 = m45)) (k (AV.bool false) H'41 true) (resPS (S F) TL N 9 fuel 6 2 n0 [] [true, true, true, true, true, false, true] m (St.mk [(0, A), (1, B), (4, AV.bad), (5, AV.ptr (Pl.mk i 0 [] 1)), (6, AV.bad), (7, AV.ptr (Pl.mk j 0 [] 1)), (8, AV.bad), (9, AV.int IntKind.i64 (IntKind.wrap IntKind.i64 (ix + 1))), (10, AV.bad), (11, AV.bad), (12, AV.bad), (20, AV.bad), (43, AV.bad), (50, AV.bad), (56, AV.bad), (62, AV.bad), (71, AV.bad), (80, AV.bad), (84, AV.bad), (89, AV.bad), (109, AV.bad), (111, AV.bad)] [] H'41 true) k)))))) ((OkS ls39 s40) → ∀ (k046 : Nat), ∀ (H'47 : Heap), (List.length H'35 ≤ k046) → (Heap.blk H'47 k046 = some (Blk.mk (AV.arr 1 (row encZ (List.getD ls39 (Int.toNat s40) []))) true true)) → (Keep [] H'35 H'47) → ∃ (v48 : AV), ∃ (w49 : AV), ∃ (l50 : List Int), ∃ (m51 : List Int), And ([AV.nils, AV.sl (Pl.mk k046 0 [] (List.length (List.getD ls39 (Int.toNat s40) []))) 1 (List.length (List.getD ls39 (Int.toNat s40) [])) 0 (List.length (List.getD ls39 (Int.toNat s40) []))] = [v48, w49]) (And (Slot H'47 v48 l50) (And (Slot H'47 w49 m51) (And (List.length l50 ≤ 1000) (cond (!decide (l50 = m51)) (k (AV.bool false) H'47 true) (resPS (S F) TL N 9 fuel 6 2 n0 [] [true, true, true, true, true, false, true] m (St.mk [(0, A), (1, B), (4, AV.bad), (5, AV.ptr (Pl.mk i 0 [] 1)), (6, AV.bad), (7, AV.ptr (Pl.mk j 0 [] 1)), (8, AV.bad), (9, AV.int IntKind.i64 (IntKind.wrap IntKind.i64 (ix + 1))), (10, AV.bad), (11, AV.bad), (12, AV.bad), (20, AV.bad), (43, AV.bad), (50, AV.bad), (56, AV.bad), (62, AV.bad), (71, AV.bad), (80, AV.bad), (84, AV.bad), (89, AV.bad), (109, AV.bad), (111, AV.bad)] [] H'47 true) k))))))))) ((OkS ls33 s34) → ∀ (k052 : Nat), ∀ (H'53 : Heap), (List.length H1 ≤ k052) → (Heap.blk H'53 k052 = some (Blk.mk (AV.arr 1 (row encZ (List.getD ls33 (Int.toNat s34) []))) true true)) → (Keep [] H1 H'53) → ∃ (i54 : Nat), ∃ (j55 : Nat), ∃ (vs56 : List AV), ∃ (ls57 : List (List Int)), ∃ (s58 : Int), And ([AV.ptr (Pl.mk j 0 [] 1), AV.int IntKind.i64 0] = [AV.ptr (Pl.mk i54 0 [] 1), AV.int IntKind.i64 s58]) (And (PinsR H'53 i54 j55 vs56 ls57) (And ((¬OkS ls57 s58 ∨ List.getD ls57 (Int.toNat s58) [] = []) → ∀ (H'59 : Heap), (Keep [] H'53 H'59) → ∃ (v60 : AV), ∃ (w61 : AV), ∃ (l62 : List Int), ∃ (m63 : List Int), And ([AV.sl (Pl.mk k052 0 [] (List.length (List.getD ls33 (Int.toNat s34) []))) 1 (List.length (List.getD ls33 (Int.toNat s34) [])) 0 (List.length (List.getD ls33 (Int.toNat s34) [])), AV.nils] = [v60, w61]) (And (Slot H'59 v60 l62) (And (Slot H'59 w61 m63) (And (List.length l62 ≤ 1000) (cond (!decide (l62 = m63)) (k (AV.bool false) H'59 true) (resPS (S F) TL N 9 fuel 6 2 n0 [] [true, true, true, true, true, false, true] m (St.mk [(0, A), (1, B), (4, AV.bad), (5, AV.ptr (Pl.mk i 0 [] 1)), (6, AV.bad), (7, AV.ptr (Pl.mk j 0 [] 1)), (8, AV.bad), (9, AV.int IntKind.i64 (IntKind.wrap IntKind.i64 (ix + 1))), (10, AV.bad), (11, AV.bad), (12, AV.bad), (20, AV.bad), (43, AV.bad), (50, AV.bad), (56, AV.bad), (62, AV.bad), (71, AV.bad), (80, AV.bad), (84, AV.bad), (89, AV.bad), (109, AV.bad), (111, AV.bad)] [] H'59 true) k)))))) ((OkS ls57 s58) → ∀ (k064 : Nat), ∀ (H'65 : Heap), (List.length H'53 ≤ k064) → (Heap.blk H'65 k064 = some (Blk.mk (AV.arr 1 (row encZ (List.getD ls57 (Int.toNat s58) []))) true true)) → (Keep [] H'53 H'65) → ∃ (v66 : AV), ∃ (w67 : AV), ∃ (l68 : List Int), ∃ (m69 : List Int), And ([AV.sl (Pl.mk k052 0 [] (List.length (List.getD ls33 (Int.toNat s34) []))) 1 (List.length (List.getD ls33 (Int.toNat s34) [])) 0 (List.length (List.getD ls33 (Int.toNat s34) [])), AV.sl (Pl.mk k064 0 [] (List.length (List.getD ls57 (Int.toNat s58) []))) 1 (List.length (List.getD ls57 (Int.toNat s58) [])) 0 (List.length (List.getD ls57 (Int.toNat s58) []))] = [v66, w67]) (And (Slot H'65 v66 l68) (And (Slot H'65 w67 m69) (And (List.length l68 ≤ 1000) (cond (!decide (l68 = m69)) (k (AV.bool false) H'65 true) (resPS (S F) TL N 9 fuel 6 2 n0 [] [true, true, true, true, true, false, true] m (St.mk [(0, A), (1, B), (4, AV.bad), (5, AV.ptr (Pl.mk i 0 [] 1)), (6, AV.bad), (7, AV.ptr (Pl.mk j 0 [] 1)), (8, AV.bad), (9, AV.int IntKind.i64 (IntKind.wrap IntKind.i64 (ix + 1))), (10, AV.bad), (11, AV.bad), (12, AV.bad), (20, AV.bad), (43, AV.bad), (50, AV.bad), (56, AV.bad), (62, AV.bad), (71, AV.bad), (80, AV.bad), (84, AV.bad), (89, AV.bad), (109, AV.bad), (111, AV.bad)] [] H'65 true) k))))))))))) := by
  have o1 : OkS ls 0 := ⟨by omega, by rw [x.l1]; omega⟩
  have o2 : OkS ms 0 := ⟨by omega, by rw [x.l2]; omega⟩
  have hl := (getD_good x.g1 o1).len
  have he : ls.getD (Int.toNat 0) [] = ms.getD (Int.toNat 0) [] := x.eq
  refine ⟨i, ip, vs, ls, 0, rfl, x.p1, fun ho H2 K1 => ?_, fun hs k0 H2 hk0 hb K1 => ?_⟩
  · have x2 := x.keep K1
    have h0 := ho.resolve_left (fun h => h o1)
    refine ⟨j, jp, ws, ms, 0, rfl, x2.p2, fun ho2 H3 K2 => ?_, fun hs2 k1 H3 hk1 hb1 K2 => ?_⟩
    · exact ⟨.nils, .nils, [], [], rfl, .inl ⟨rfl, rfl⟩, .inl ⟨rfl, rfl⟩, by simp, cF rfl (hk _ (x2.keep K2))⟩
    · refine ⟨.nils, _, [], ms.getD (Int.toNat 0) [], rfl, .inl ⟨rfl, rfl⟩, .inr ⟨k1, [], rfl, by simpa using hb1⟩, by simp, cF ?_ (hk _ (x2.keep K2))⟩
      rw [← he, h0]
      rfl
  · have x2 := x.keep K1
    have hb2 : ∀ {H3 : Heap}, Keep [] H2 H3 → Slot H3 (.sl ⟨k0, 0, [], (ls.getD (Int.toNat 0) []).length⟩ 1 (ls.getD (Int.toNat 0) []).length 0 (ls.getD (Int.toNat 0) []).length) (ls.getD (Int.toNat 0) []) := fun K2 => by
      refine .inr ⟨k0, [], rfl, ?_⟩
      rw [K2.blk (blk_lt hb) (by simp), hb]
      simp
    refine ⟨j, jp, ws, ms, 0, rfl, x2.p2, fun ho2 H3 K2 => ?_, fun hs2 k1 H3 hk1 hb1 K2 => ?_⟩
    · have h0 := ho2.resolve_left (fun h => h o2)
      refine ⟨_, .nils, ls.getD (Int.toNat 0) [], [], rfl, hb2 K2, .inl ⟨rfl, rfl⟩, by omega, cF ?_ (hk _ (x2.keep K2))⟩
      rw [he, h0]
      rfl
    · refine ⟨_, _, ls.getD (Int.toNat 0) [], ms.getD (Int.toNat 0) [], rfl, hb2 K2, .inr ⟨k1, [], rfl, by simpa using hb1⟩, by omega, cF ?_ (hk _ (x2.keep K2))⟩
      rw [he]
      simp
/-! ### What the steps do to the first session -/
theorem dropS_0 {pg : Int} (hl : ls.length = 2) : (dropS ls 0 pg).getD 0 [] = if pg ∈ ls.getD 0 [] then (ls.getD 0 []).erase pg else ls.getD 0 [] := by
  have o1 : OkS ls 0 := ⟨by omega, by rw [hl]; omega⟩
  have h0 : (Int.toNat 0) = 0 := rfl
  unfold dropS dropErr
  rw [if_pos o1, h0]
  by_cases hm : pg ∈ ls.getD 0 []
  · rw [if_pos hm, if_pos rfl, if_pos hm]
    simp [List.getD, hl]
  · rw [if_neg hm, if_neg (by decide), if_neg hm]
theorem dropS_1 {pg : Int} : (dropS ls 1 pg).getD 0 [] = ls.getD 0 [] := by
  have h0 : (Int.toNat 1) = 1 := rfl
  unfold dropS
  split
  · rw [h0]
    simp [List.getD]
  · rfl
theorem addS_0 {pg : Int} (hl : ls.length = 2) : (addS ls 0 pg).getD 0 [] = if OkP pg ∧ (ls.getD 0 []).length < 16 then sortI (ls.getD 0 [] ++ [pg]) else ls.getD 0 [] := by
  have o1 : OkS ls 0 := ⟨by omega, by rw [hl]; omega⟩
  have h0 : (Int.toNat 0) = 0 := rfl
  unfold addS addErr
  rw [if_pos o1, h0]
  by_cases hp : OkP pg
  · by_cases hm : 16 ≤ (ls.getD 0 []).length
    · rw [if_pos hp, if_pos hm, if_neg (by decide), if_neg (by omega)]
    · rw [if_pos hp, if_neg hm, if_pos rfl, if_pos ⟨hp, by omega⟩]
      simp [List.getD, hl]
  · rw [if_neg hp, if_neg (by decide), if_neg (fun h => hp h.1)]
theorem addS_1 {pg : Int} : (addS ls 1 pg).getD 0 [] = ls.getD 0 [] := by
  have h0 : (Int.toNat 1) = 1 := rfl
  unfold addS
  split
  · rw [h0]
    simp [List.getD]
  · rfl
theorem addS_len (s pg : Int) : (addS ls s pg).length = ls.length := by unfold addS; split <;> simp
theorem dropS_len (s pg : Int) : (dropS ls s pg).length = ls.length := by unfold dropS; split <;> simp
theorem dropE_0 {pg : Int} (h1 : ls.length = 2) (h2 : ms.length = 2) (he : ls.getD 0 [] = ms.getD 0 []) : dropErr ls 0 pg = dropErr ms 0 pg := by
  have o1 : OkS ls 0 := ⟨by omega, by rw [h1]; omega⟩
  have o2 : OkS ms 0 := ⟨by omega, by rw [h2]; omega⟩
  have h0 : (Int.toNat 0) = 0 := rfl
  unfold dropErr
  rw [if_pos o1, if_pos o2, h0, he]
theorem addE_0 {pg : Int} (h1 : ls.length = 2) (h2 : ms.length = 2) (he : ls.getD 0 [] = ms.getD 0 []) : addErr ls 0 pg = addErr ms 0 pg := by
  have o1 : OkS ls 0 := ⟨by omega, by rw [h1]; omega⟩
  have o2 : OkS ms 0 := ⟨by omega, by rw [h2]; omega⟩
  have h0 : (Int.toNat 0) = 0 := rfl
  unfold addErr
  rw [if_pos o1, if_pos o2, h0, he]
/-- Both, the first one written in its second session. -/
theorem Inv6.b {H H2 : Heap} {vs' : List AV} {ls' : List (List Int)} (x : Inv6 H i ip j jp vs ws ls ms) (h2 : PinsR H2 i ip vs' ls') (hn : Nxt H i ip vs H2 vs') (hl : ls'.length = ls.length) (h0 : ls'.getD 0 [] = ls.getD 0 []) (hg : AllGood ls') : Inv6 H2 i ip j jp vs' ws ls' ms :=
  ⟨h2, x.p2.keep' hn.keep x.dis.symm, by rw [hl, x.l1], x.l2, by rw [h0, x.eq], hg, x.g2, x.dis.next hn x.p2.lt⟩
theorem bpart6 {H1 : Heap} {ix : Nat} (x : Inv6 H1 i ip j jp vs ws ls ms) (hk : ∀ H2 vs' ls', Inv6 H2 i ip j jp vs' ws ls' ms → resPS (S F) TL N 9 fuel 6 2 n0 [] pP m ⟨L6 A (.isl 3 (row encSt m2)) i j (IntKind.i64.wrap ((ix : Int) + 1)), [], H2, true⟩ k) :
  cond (decide ((ix : Int) < (↑(List.length (row encSt m2)) : Int))) (cond (decide (0 ≤ (ix : Int))) (cond (AV.isAggN (Option.getD (row encSt m2)[Int.toNat (ix : Int)]? AV.bad) 3 3) (cond (AV.isBoolV (AV.part (Option.getD (row encSt m2)[Int.toNat (ix : Int)]? AV.bad) 0)) (cond (AV.isIntK (AV.part (Option.getD (row encSt m2)[Int.toNat (ix : Int)]? AV.bad) 1) IntKind.i64) (cond (AV.isIntK (AV.part (Option.getD (row encSt m2)[Int.toNat (ix : Int)]? AV.bad) 2) IntKind.i64) (cond (AV.toBool (AV.part (Option.getD (row encSt m2)[Int.toNat (ix : Int)]? AV.bad) 0)) (cond (decide (0 ≤ (ix : Int))) (cond (AV.isAggN (Option.getD (row encSt m2)[Int.toNat (ix : Int)]? AV.bad) 3 3) (cond (AV.isBoolV (AV.part (Option.getD (row encSt m2)[Int.toNat (ix : Int)]? AV.bad) 0)) (cond (AV.isIntK (AV.part (Option.getD (row encSt m2)[Int.toNat (ix : Int)]? AV.bad) 1) IntKind.i64) (cond (AV.isIntK (AV.part (Option.getD (row encSt m2)[Int.toNat (ix : Int)]? AV.bad) 2) IntKind.i64) (∃ (i22 : Nat), ∃ (j23 : Nat), ∃ (vs24 : List AV), ∃ (ls25 : List (List Int)), ∃ (s26 : Int), ∃ (pg27 : Int), And ([AV.ptr (Pl.mk i 0 [] 1), AV.int IntKind.i64 1, AV.int IntKind.i64 (AV.toInt (AV.part (Option.getD (row encSt m2)[Int.toNat (ix : Int)]? AV.bad) 2))] = [AV.ptr (Pl.mk i22 0 [] 1), AV.int IntKind.i64 s26, AV.int IntKind.i64 pg27]) (And (PinsR H1 i22 j23 vs24 ls25) (∀ (H'28 : Heap), ∀ (vs'29 : List AV), (PinsR H'28 i22 j23 vs'29 (dropS ls25 s26 pg27)) → (Nxt H1 i22 j23 vs24 H'28 vs'29) → ∃ (i30 : Nat), ∃ (j31 : Nat), ∃ (vs32 : List AV), ∃ (ls33 : List (List Int)), ∃ (s34 : Int), And ([AV.ptr (Pl.mk i 0 [] 1), AV.int IntKind.i64 0] = [AV.ptr (Pl.mk i30 0 [] 1), AV.int IntKind.i64 s34]) (And (PinsR H'28 i30 j31 vs32 ls33) (And ((¬OkS ls33 s34 ∨ List.getD ls33 (Int.toNat s34) [] = []) → ∀ (H'35 : Heap), (Keep [] H'28 H'35) → ∃ (i36 : Nat), ∃ (j37 : Nat), ∃ (vs38 : List AV), ∃ (ls39 : List (List Int)), ∃ (s40 : Int), And ([AV.ptr (Pl.mk j 0 [] 1), AV.int IntKind.i64 0] = [AV.ptr (Pl.mk i36 0 [] 1), AV.int IntKind.i64 s40]) (And (PinsR H'35 i36 j37 vs38 ls39) (And ((¬OkS ls39 s40 ∨ List.getD ls39 (Int.toNat s40) [] = []) → ∀ (H'41 : Heap), (Keep [] H'35 H'41) → ∃ (v42 : AV), ∃ (w43 : AV), ∃ (l44 : List Int), ∃ (m45 : List Int), And ([AV.nils, AV.nils] = [v42, w43]) (And (Slot H'41 v42 l44) (And (Slot H'41 w43 m45) (And (List.length l44 ≤ 1000) (cond (!decide (l44 = m45)) (k (AV.bool false) H'41 true) (resPS (S F) TL N 9 fuel 6 2 n0 [] [true, true, true, true, true, false, true] m (St.mk [(0, A), (1, AV.isl 3 (row encSt m2)), (4, AV.bad), (5, AV.ptr (Pl.mk i 0 [] 1)), (6, AV.bad), (7, AV.ptr (Pl.mk j 0 [] 1)), (8, AV.bad), (9, AV.int IntKind.i64 (IntKind.wrap IntKind.i64 ((ix : Int) + 1))), (10, AV.bad), (11, AV.bad), (12, AV.bad), (20, AV.bad), (43, AV.bad), (50, AV.bad), (56, AV.bad), (62, AV.bad), (71, AV.bad), (80, AV.bad), (84, AV.bad), (89, AV.bad), (109, AV.bad), (111, AV.bad)] [] H'41 true) k)))))) ((OkS ls39 s40) → ∀ (k046 : Nat), ∀ (H'47 : Heap), (List.length H'35 ≤ k046) → (Heap.blk H'47 k046 = some (Blk.mk (AV.arr 1 (row encZ (List.getD ls39 (Int.toNat s40) []))) true true)) → (Keep [] H'35 H'47) → ∃ (v48 : AV), ∃ (w49 : AV), ∃ (l50 : List Int), ∃ (m51 : List Int), And ([AV.nils, AV.sl (Pl.mk k046 0 [] (List.length (List.getD ls39 (Int.toNat s40) []))) 1 (List.length (List.getD ls39 (Int.toNat s40) [])) 0 (List.length (List.getD ls39 (Int.toNat s40) []))] = [v48, w49]) (And (Slot H'47 v48 l50) (And (Slot H'47 w49 m51) (And (List.length l50 ≤ 1000) (cond (!decide (l50 = m51)) (k (AV.bool false) H'47 true) (resPS (S F) TL N 9 fuel 6 2 n0 [] [true, true, true, true, true, false, true] m (St.mk [(0, A), (1, AV.isl 3 (row encSt m2)), (4, AV.bad), (5, AV.ptr (Pl.mk i 0 [] 1)), (6, AV.bad), (7, AV.ptr (Pl.mk j 0 [] 1)), (8, AV.bad), (9, AV.int IntKind.i64 (IntKind.wrap IntKind.i64 ((ix : Int) + 1))), (10, AV.bad), (11, AV.bad), (12, AV.bad), (20, AV.bad), (43, AV.bad), (50, AV.bad), (56, AV.bad), (62, AV.bad), (71, AV.bad), (80, AV.bad), (84, AV.bad), (89, AV.bad), (109, AV.bad), (111, AV.bad)] [] H'47 true) k))))))))) ((OkS ls33 s34) → ∀ (k052 : Nat), ∀ (H'53 : Heap), (List.length H'28 ≤ k052) → (Heap.blk H'53 k052 = some (Blk.mk (AV.arr 1 (row encZ (List.getD ls33 (Int.toNat s34) []))) true true)) → (Keep [] H'28 H'53) → ∃ (i54 : Nat), ∃ (j55 : Nat), ∃ (vs56 : List AV), ∃ (ls57 : List (List Int)), ∃ (s58 : Int), And ([AV.ptr (Pl.mk j 0 [] 1), AV.int IntKind.i64 0] = [AV.ptr (Pl.mk i54 0 [] 1), AV.int IntKind.i64 s58]) (And (PinsR H'53 i54 j55 vs56 ls57) (And ((¬OkS ls57 s58 ∨ List.getD ls57 (Int.toNat s58) [] = []) → ∀ (H'59 : Heap), (Keep [] H'53 H'59) → ∃ (v60 : AV), ∃ (w61 : AV), ∃ (l62 : List Int), ∃ (m63 : List Int), And ([AV.sl (Pl.mk k052 0 [] (List.length (List.getD ls33 (Int.toNat s34) []))) 1 (List.length (List.getD ls33 (Int.toNat s34) [])) 0 (List.length (List.getD ls33 (Int.toNat s34) [])), AV.nils] = [v60, w61]) (And (Slot H'59 v60 l62) (And (Slot H'59 w61 m63) (And (List.length l62 ≤ 1000) (cond (!decide (l62 = m63)) (k (AV.bool false) H'59 true) (resPS (S F) TL N 9 fuel 6 2 n0 [] [true, true, true, true, true, false, true] m (St.mk [(0, A), (1, AV.isl 3 (row encSt m2)), (4, AV.bad), (5, AV.ptr (Pl.mk i 0 [] 1)), (6, AV.bad), (7, AV.ptr (Pl.mk j 0 [] 1)), (8, AV.bad), (9, AV.int IntKind.i64 (IntKind.wrap IntKind.i64 ((ix : Int) + 1))), (10, AV.bad), (11, AV.bad), (12, AV.bad), (20, AV.bad), (43, AV.bad), (50, AV.bad), (56, AV.bad), (62, AV.bad), (71, AV.bad), (80, AV.bad), (84, AV.bad), (89, AV.bad), (109, AV.bad), (111, AV.bad)] [] H'59 true) k)))))) ((OkS ls57 s58) → ∀ (k064 : Nat), ∀ (H'65 : Heap), (List.length H'53 ≤ k064) → (Heap.blk H'65 k064 = some (Blk.mk (AV.arr 1 (row encZ (List.getD ls57 (Int.toNat s58) []))) true true)) → (Keep [] H'53 H'65) → ∃ (v66 : AV), ∃ (w67 : AV), ∃ (l68 : List Int), ∃ (m69 : List Int), And ([AV.sl (Pl.mk k052 0 [] (List.length (List.getD ls33 (Int.toNat s34) []))) 1 (List.length (List.getD ls33 (Int.toNat s34) [])) 0 (List.length (List.getD ls33 (Int.toNat s34) [])), AV.sl (Pl.mk k064 0 [] (List.length (List.getD ls57 (Int.toNat s58) []))) 1 (List.length (List.getD ls57 (Int.toNat s58) [])) 0 (List.length (List.getD ls57 (Int.toNat s58) []))] = [v66, w67]) (And (Slot H'65 v66 l68) (And (Slot H'65 w67 m69) (And (List.length l68 ≤ 1000) (cond (!decide (l68 = m69)) (k (AV.bool false) H'65 true) (resPS (S F) TL N 9 fuel 6 2 n0 [] [true, true, true, true, true, false, true] m (St.mk [(0, A), (1, AV.isl 3 (row encSt m2)), (4, AV.bad), (5, AV.ptr (Pl.mk i 0 [] 1)), (6, AV.bad), (7, AV.ptr (Pl.mk j 0 [] 1)), (8, AV.bad), (9, AV.int IntKind.i64 (IntKind.wrap IntKind.i64 ((ix : Int) + 1))), (10, AV.bad), (11, AV.bad), (12, AV.bad), (20, AV.bad), (43, AV.bad), (50, AV.bad), (56, AV.bad), (62, AV.bad), (71, AV.bad), (80, AV.bad), (84, AV.bad), (89, AV.bad), (109, AV.bad), (111, AV.bad)] [] H'65 true) k)))))))))))))) (False)) (False)) (False)) (False)) (False)) (cond (decide (0 ≤ (ix : Int))) (cond (AV.isAggN (Option.getD (row encSt m2)[Int.toNat (ix : Int)]? AV.bad) 3 3) (cond (AV.isBoolV (AV.part (Option.getD (row encSt m2)[Int.toNat (ix : Int)]? AV.bad) 0)) (cond (AV.isIntK (AV.part (Option.getD (row encSt m2)[Int.toNat (ix : Int)]? AV.bad) 1) IntKind.i64) (cond (AV.isIntK (AV.part (Option.getD (row encSt m2)[Int.toNat (ix : Int)]? AV.bad) 2) IntKind.i64) (∃ (i70 : Nat), ∃ (j71 : Nat), ∃ (vs72 : List AV), ∃ (ls73 : List (List Int)), ∃ (s74 : Int), ∃ (pg75 : Int), And ([AV.ptr (Pl.mk i 0 [] 1), AV.int IntKind.i64 1, AV.int IntKind.i64 (AV.toInt (AV.part (Option.getD (row encSt m2)[Int.toNat (ix : Int)]? AV.bad) 2))] = [AV.ptr (Pl.mk i70 0 [] 1), AV.int IntKind.i64 s74, AV.int IntKind.i64 pg75]) (And (PinsR H1 i70 j71 vs72 ls73) (∀ (H'76 : Heap), ∀ (vs'77 : List AV), (PinsR H'76 i70 j71 vs'77 (addS ls73 s74 pg75)) → (Nxt H1 i70 j71 vs72 H'76 vs'77) → ∃ (i78 : Nat), ∃ (j79 : Nat), ∃ (vs80 : List AV), ∃ (ls81 : List (List Int)), ∃ (s82 : Int), And ([AV.ptr (Pl.mk i 0 [] 1), AV.int IntKind.i64 0] = [AV.ptr (Pl.mk i78 0 [] 1), AV.int IntKind.i64 s82]) (And (PinsR H'76 i78 j79 vs80 ls81) (And ((¬OkS ls81 s82 ∨ List.getD ls81 (Int.toNat s82) [] = []) → ∀ (H'83 : Heap), (Keep [] H'76 H'83) → ∃ (i84 : Nat), ∃ (j85 : Nat), ∃ (vs86 : List AV), ∃ (ls87 : List (List Int)), ∃ (s88 : Int), And ([AV.ptr (Pl.mk j 0 [] 1), AV.int IntKind.i64 0] = [AV.ptr (Pl.mk i84 0 [] 1), AV.int IntKind.i64 s88]) (And (PinsR H'83 i84 j85 vs86 ls87) (And ((¬OkS ls87 s88 ∨ List.getD ls87 (Int.toNat s88) [] = []) → ∀ (H'89 : Heap), (Keep [] H'83 H'89) → ∃ (v90 : AV), ∃ (w91 : AV), ∃ (l92 : List Int), ∃ (m93 : List Int), And ([AV.nils, AV.nils] = [v90, w91]) (And (Slot H'89 v90 l92) (And (Slot H'89 w91 m93) (And (List.length l92 ≤ 1000) (cond (!decide (l92 = m93)) (k (AV.bool false) H'89 true) (resPS (S F) TL N 9 fuel 6 2 n0 [] [true, true, true, true, true, false, true] m (St.mk [(0, A), (1, AV.isl 3 (row encSt m2)), (4, AV.bad), (5, AV.ptr (Pl.mk i 0 [] 1)), (6, AV.bad), (7, AV.ptr (Pl.mk j 0 [] 1)), (8, AV.bad), (9, AV.int IntKind.i64 (IntKind.wrap IntKind.i64 ((ix : Int) + 1))), (10, AV.bad), (11, AV.bad), (12, AV.bad), (20, AV.bad), (43, AV.bad), (50, AV.bad), (56, AV.bad), (62, AV.bad), (71, AV.bad), (80, AV.bad), (84, AV.bad), (89, AV.bad), (109, AV.bad), (111, AV.bad)] [] H'89 true) k)))))) ((OkS ls87 s88) → ∀ (k094 : Nat), ∀ (H'95 : Heap), (List.length H'83 ≤ k094) → (Heap.blk H'95 k094 = some (Blk.mk (AV.arr 1 (row encZ (List.getD ls87 (Int.toNat s88) []))) true true)) → (Keep [] H'83 H'95) → ∃ (v96 : AV), ∃ (w97 : AV), ∃ (l98 : List Int), ∃ (m99 : List Int), And ([AV.nils, AV.sl (Pl.mk k094 0 [] (List.length (List.getD ls87 (Int.toNat s88) []))) 1 (List.length (List.getD ls87 (Int.toNat s88) [])) 0 (List.length (List.getD ls87 (Int.toNat s88) []))] = [v96, w97]) (And (Slot H'95 v96 l98) (And (Slot H'95 w97 m99) (And (List.length l98 ≤ 1000) (cond (!decide (l98 = m99)) (k (AV.bool false) H'95 true) (resPS (S F) TL N 9 fuel 6 2 n0 [] [true, true, true, true, true, false, true] m (St.mk [(0, A), (1, AV.isl 3 (row encSt m2)), (4, AV.bad), (5, AV.ptr (Pl.mk i 0 [] 1)), (6, AV.bad), (7, AV.ptr (Pl.mk j 0 [] 1)), (8, AV.bad), (9, AV.int IntKind.i64 (IntKind.wrap IntKind.i64 ((ix : Int) + 1))), (10, AV.bad), (11, AV.bad), (12, AV.bad), (20, AV.bad), (43, AV.bad), (50, AV.bad), (56, AV.bad), (62, AV.bad), (71, AV.bad), (80, AV.bad), (84, AV.bad), (89, AV.bad), (109, AV.bad), (111, AV.bad)] [] H'95 true) k))))))))) ((OkS ls81 s82) → ∀ (k0100 : Nat), ∀ (H'101 : Heap), (List.length H'76 ≤ k0100) → (Heap.blk H'101 k0100 = some (Blk.mk (AV.arr 1 (row encZ (List.getD ls81 (Int.toNat s82) []))) true true)) → (Keep [] H'76 H'101) → ∃ (i102 : Nat), ∃ (j103 : Nat), ∃ (vs104 : List AV), ∃ (ls105 : List (List Int)), ∃ (s106 : Int), And ([AV.ptr (Pl.mk j 0 [] 1), AV.int IntKind.i64 0] = [AV.ptr (Pl.mk i102 0 [] 1), AV.int IntKind.i64 s106]) (And (PinsR H'101 i102 j103 vs104 ls105) (And ((¬OkS ls105 s106 ∨ List.getD ls105 (Int.toNat s106) [] = []) → ∀ (H'107 : Heap), (Keep [] H'101 H'107) → ∃ (v108 : AV), ∃ (w109 : AV), ∃ (l110 : List Int), ∃ (m111 : List Int), And ([AV.sl (Pl.mk k0100 0 [] (List.length (List.getD ls81 (Int.toNat s82) []))) 1 (List.length (List.getD ls81 (Int.toNat s82) [])) 0 (List.length (List.getD ls81 (Int.toNat s82) [])), AV.nils] = [v108, w109]) (And (Slot H'107 v108 l110) (And (Slot H'107 w109 m111) (And (List.length l110 ≤ 1000) (cond (!decide (l110 = m111)) (k (AV.bool false) H'107 true) (resPS (S F) TL N 9 fuel 6 2 n0 [] [true, true, true, true, true, false, true] m (St.mk [(0, A), (1, AV.isl 3 (row encSt m2)), (4, AV.bad), (5, AV.ptr (Pl.mk i 0 [] 1)), (6, AV.bad), (7, AV.ptr (Pl.mk j 0 [] 1)), (8, AV.bad), (9, AV.int IntKind.i64 (IntKind.wrap IntKind.i64 ((ix : Int) + 1))), (10, AV.bad), (11, AV.bad), (12, AV.bad), (20, AV.bad), (43, AV.bad), (50, AV.bad), (56, AV.bad), (62, AV.bad), (71, AV.bad), (80, AV.bad), (84, AV.bad), (89, AV.bad), (109, AV.bad), (111, AV.bad)] [] H'107 true) k)))))) ((OkS ls105 s106) → ∀ (k0112 : Nat), ∀ (H'113 : Heap), (List.length H'101 ≤ k0112) → (Heap.blk H'113 k0112 = some (Blk.mk (AV.arr 1 (row encZ (List.getD ls105 (Int.toNat s106) []))) true true)) → (Keep [] H'101 H'113) → ∃ (v114 : AV), ∃ (w115 : AV), ∃ (l116 : List Int), ∃ (m117 : List Int), And ([AV.sl (Pl.mk k0100 0 [] (List.length (List.getD ls81 (Int.toNat s82) []))) 1 (List.length (List.getD ls81 (Int.toNat s82) [])) 0 (List.length (List.getD ls81 (Int.toNat s82) [])), AV.sl (Pl.mk k0112 0 [] (List.length (List.getD ls105 (Int.toNat s106) []))) 1 (List.length (List.getD ls105 (Int.toNat s106) [])) 0 (List.length (List.getD ls105 (Int.toNat s106) []))] = [v114, w115]) (And (Slot H'113 v114 l116) (And (Slot H'113 w115 m117) (And (List.length l116 ≤ 1000) (cond (!decide (l116 = m117)) (k (AV.bool false) H'113 true) (resPS (S F) TL N 9 fuel 6 2 n0 [] [true, true, true, true, true, false, true] m (St.mk [(0, A), (1, AV.isl 3 (row encSt m2)), (4, AV.bad), (5, AV.ptr (Pl.mk i 0 [] 1)), (6, AV.bad), (7, AV.ptr (Pl.mk j 0 [] 1)), (8, AV.bad), (9, AV.int IntKind.i64 (IntKind.wrap IntKind.i64 ((ix : Int) + 1))), (10, AV.bad), (11, AV.bad), (12, AV.bad), (20, AV.bad), (43, AV.bad), (50, AV.bad), (56, AV.bad), (62, AV.bad), (71, AV.bad), (80, AV.bad), (84, AV.bad), (89, AV.bad), (109, AV.bad), (111, AV.bad)] [] H'113 true) k)))))))))))))) (False)) (False)) (False)) (False)) (False))) (False)) (False)) (False)) (False)) (False)) (∃ (i118 : Nat), ∃ (j119 : Nat), ∃ (vs120 : List AV), ∃ (ls121 : List (List Int)), ∃ (s122 : Int), And ([AV.ptr (Pl.mk i 0 [] 1), AV.int IntKind.i64 0] = [AV.ptr (Pl.mk i118 0 [] 1), AV.int IntKind.i64 s122]) (And (PinsR H1 i118 j119 vs120 ls121) (And ((¬OkS ls121 s122 ∨ List.getD ls121 (Int.toNat s122) [] = []) → ∀ (H'123 : Heap), (Keep [] H1 H'123) → ∃ (i124 : Nat), ∃ (j125 : Nat), ∃ (vs126 : List AV), ∃ (ls127 : List (List Int)), ∃ (s128 : Int), And ([AV.ptr (Pl.mk j 0 [] 1), AV.int IntKind.i64 0] = [AV.ptr (Pl.mk i124 0 [] 1), AV.int IntKind.i64 s128]) (And (PinsR H'123 i124 j125 vs126 ls127) (And ((¬OkS ls127 s128 ∨ List.getD ls127 (Int.toNat s128) [] = []) → ∀ (H'129 : Heap), (Keep [] H'123 H'129) → ∃ (v130 : AV), ∃ (w131 : AV), ∃ (l132 : List Int), ∃ (m133 : List Int), And ([AV.nils, AV.nils] = [v130, w131]) (And (Slot H'129 v130 l132) (And (Slot H'129 w131 m133) (And (List.length l132 ≤ 1000) (cond (!decide (l132 = m133)) (k (AV.bool false) H'129 true) (resPS (S F) TL N 9 fuel 6 2 n0 [] [true, true, true, true, true, false, true] m (St.mk [(0, A), (1, AV.isl 3 (row encSt m2)), (4, AV.bad), (5, AV.ptr (Pl.mk i 0 [] 1)), (6, AV.bad), (7, AV.ptr (Pl.mk j 0 [] 1)), (8, AV.bad), (9, AV.int IntKind.i64 (IntKind.wrap IntKind.i64 ((ix : Int) + 1))), (10, AV.bad), (11, AV.bad), (12, AV.bad), (20, AV.bad), (43, AV.bad), (50, AV.bad), (56, AV.bad), (62, AV.bad), (71, AV.bad), (80, AV.bad), (84, AV.bad), (89, AV.bad), (109, AV.bad), (111, AV.bad)] [] H'129 true) k)))))) ((OkS ls127 s128) → ∀ (k0134 : Nat), ∀ (H'135 : Heap), (List.length H'123 ≤ k0134) → (Heap.blk H'135 k0134 = some (Blk.mk (AV.arr 1 (row encZ (List.getD ls127 (Int.toNat s128) []))) true true)) → (Keep [] H'123 H'135) → ∃ (v136 : AV), ∃ (w137 : AV), ∃ (l138 : List Int), ∃ (m139 : List Int), And ([AV.nils, AV.sl (Pl.mk k0134 0 [] (List.length (List.getD ls127 (Int.toNat s128) []))) 1 (List.length (List.getD ls127 (Int.toNat s128) [])) 0 (List.length (List.getD ls127 (Int.toNat s128) []))] = [v136, w137]) (And (Slot H'135 v136 l138) (And (Slot H'135 w137 m139) (And (List.length l138 ≤ 1000) (cond (!decide (l138 = m139)) (k (AV.bool false) H'135 true) (resPS (S F) TL N 9 fuel 6 2 n0 [] [true, true, true, true, true, false, true] m (St.mk [(0, A), (1, AV.isl 3 (row encSt m2)), (4, AV.bad), (5, AV.ptr (Pl.mk i 0 [] 1)), (6, AV.bad), (7, AV.ptr (Pl.mk j 0 [] 1)), (8, AV.bad), (9, AV.int IntKind.i64 (IntKind.wrap IntKind.i64 ((ix : Int) + 1))), (10, AV.bad), (11, AV.bad), (12, AV.bad), (20, AV.bad), (43, AV.bad), (50, AV.bad), (56, AV.bad), (62, AV.bad), (71, AV.bad), (80, AV.bad), (84, AV.bad), (89, AV.bad), (109, AV.bad), (111, AV.bad)] [] H'135 true) k))))))))) ((OkS ls121 s122) → ∀ (k0140 : Nat), ∀ (H'141 : Heap), (List.length H1 ≤ k0140) → (Heap.blk H'141 k0140 = some (Blk.mk (AV.arr 1 (row encZ (List.getD ls121 (Int.toNat s122) []))) true true)) → (Keep [] H1 H'141) → ∃ (i142 : Nat), ∃ (j143 : Nat), ∃ (vs144 : List AV), ∃ (ls145 : List (List Int)), ∃ (s146 : Int), And ([AV.ptr (Pl.mk j 0 [] 1), AV.int IntKind.i64 0] = [AV.ptr (Pl.mk i142 0 [] 1), AV.int IntKind.i64 s146]) (And (PinsR H'141 i142 j143 vs144 ls145) (And ((¬OkS ls145 s146 ∨ List.getD ls145 (Int.toNat s146) [] = []) → ∀ (H'147 : Heap), (Keep [] H'141 H'147) → ∃ (v148 : AV), ∃ (w149 : AV), ∃ (l150 : List Int), ∃ (m151 : List Int), And ([AV.sl (Pl.mk k0140 0 [] (List.length (List.getD ls121 (Int.toNat s122) []))) 1 (List.length (List.getD ls121 (Int.toNat s122) [])) 0 (List.length (List.getD ls121 (Int.toNat s122) [])), AV.nils] = [v148, w149]) (And (Slot H'147 v148 l150) (And (Slot H'147 w149 m151) (And (List.length l150 ≤ 1000) (cond (!decide (l150 = m151)) (k (AV.bool false) H'147 true) (resPS (S F) TL N 9 fuel 6 2 n0 [] [true, true, true, true, true, false, true] m (St.mk [(0, A), (1, AV.isl 3 (row encSt m2)), (4, AV.bad), (5, AV.ptr (Pl.mk i 0 [] 1)), (6, AV.bad), (7, AV.ptr (Pl.mk j 0 [] 1)), (8, AV.bad), (9, AV.int IntKind.i64 (IntKind.wrap IntKind.i64 ((ix : Int) + 1))), (10, AV.bad), (11, AV.bad), (12, AV.bad), (20, AV.bad), (43, AV.bad), (50, AV.bad), (56, AV.bad), (62, AV.bad), (71, AV.bad), (80, AV.bad), (84, AV.bad), (89, AV.bad), (109, AV.bad), (111, AV.bad)] [] H'147 true) k)))))) ((OkS ls145 s146) → ∀ (k0152 : Nat), ∀ (H'153 : Heap), (List.length H'141 ≤ k0152) → (Heap.blk H'153 k0152 = some (Blk.mk (AV.arr 1 (row encZ (List.getD ls145 (Int.toNat s146) []))) true true)) → (Keep [] H'141 H'153) → ∃ (v154 : AV), ∃ (w155 : AV), ∃ (l156 : List Int), ∃ (m157 : List Int), And ([AV.sl (Pl.mk k0140 0 [] (List.length (List.getD ls121 (Int.toNat s122) []))) 1 (List.length (List.getD ls121 (Int.toNat s122) [])) 0 (List.length (List.getD ls121 (Int.toNat s122) [])), AV.sl (Pl.mk k0152 0 [] (List.length (List.getD ls145 (Int.toNat s146) []))) 1 (List.length (List.getD ls145 (Int.toNat s146) [])) 0 (List.length (List.getD ls145 (Int.toNat s146) []))] = [v154, w155]) (And (Slot H'153 v154 l156) (And (Slot H'153 w155 m157) (And (List.length l156 ≤ 1000) (cond (!decide (l156 = m157)) (k (AV.bool false) H'153 true) (resPS (S F) TL N 9 fuel 6 2 n0 [] [true, true, true, true, true, false, true] m (St.mk [(0, A), (1, AV.isl 3 (row encSt m2)), (4, AV.bad), (5, AV.ptr (Pl.mk i 0 [] 1)), (6, AV.bad), (7, AV.ptr (Pl.mk j 0 [] 1)), (8, AV.bad), (9, AV.int IntKind.i64 (IntKind.wrap IntKind.i64 ((ix : Int) + 1))), (10, AV.bad), (11, AV.bad), (12, AV.bad), (20, AV.bad), (43, AV.bad), (50, AV.bad), (56, AV.bad), (62, AV.bad), (71, AV.bad), (80, AV.bad), (84, AV.bad), (89, AV.bad), (109, AV.bad), (111, AV.bad)] [] H'153 true) k)))))))))))) := by
  by_cases hi : ix < m2.length
  · refine cD (by rw [row_length]; omega) (cD (by omega) ?_)
    rw [Int.toNat_natCast, step_at hi]
    refine cT rfl (cT rfl (cT rfl (cT rfl ?_)))
    by_cases hd : m2[ix].drop = true
    · refine cT hd (cD (by omega) (cT rfl (cT rfl (cT rfl (cT rfl ⟨i, ip, vs, ls, 1, m2[ix].pg, rfl, x.p1, fun H2 vs' h2 hn => ?_⟩)))))
      exact tail6 (x.b h2 hn (dropS_len _ _) dropS_1 (dropS_good x.g1 _ _)) fun H3 h3 => hk H3 _ _ h3
    · have hd : m2[ix].drop = false := by simpa using hd
      refine cF hd (cD (by omega) (cT rfl (cT rfl (cT rfl (cT rfl ⟨i, ip, vs, ls, 1, m2[ix].pg, rfl, x.p1, fun H2 vs' h2 hn => ?_⟩)))))
      exact tail6 (x.b h2 hn (addS_len _ _) addS_1 (addS_good x.g1 _ _)) fun H3 h3 => hk H3 _ _ h3
  · exact cN (by rw [row_length]; omega) (tail6 x fun H3 h3 => hk H3 _ _ h3)
end Go.Proofs.Ytclmndonaljppaa
/-
  PinsApart: the law's run.
-/
namespace Go.Proofs.Ytclmndonaljppaa
open Go Go.X
variable {F : Nat} {N fuel m n0 : Nat} {l m2 : List Stp} {i ip j jp : Nat} {k : AV → Heap → Bool → Prop} {vs ws : List AV} {ls ms : List (List Int)}
set_option maxRecDepth 100000
abbrev pP2 : List Bool := [true, true, true, true, true, true, true, false, true]
theorem lt_max {a b ix : Nat} (h : ix < b ∨ ix < a) : (ix : Int) < if ((a : Nat) : Int) > ((b : Nat) : Int) then ((a : Nat) : Int) else ((b : Nat) : Int) := by split <;> omega
theorem not_lt_max {a b ix : Nat} (h1 : ¬ ix < b) (h2 : ¬ ix < a) : ¬ (ix : Int) < if ((a : Nat) : Int) > ((b : Nat) : Int) then ((a : Nat) : Int) else ((b : Nat) : Int) := by split <;> omega
theorem stepA6 {H : Heap} {ix : Nat} (hx : ix < l.length ∨ ix < m2.length) (x : Inv6 H i ip j jp vs ws ls ms)
    (hk : ∀ H2 vs' ws' ls' ms', Inv6 H2 i ip j jp vs' ws' ls' ms' → resPS (S F) TL N 9 fuel 6 2 n0 [] pP m ⟨L6 (.isl 3 (row encSt l)) (.isl 3 (row encSt m2)) i j (IntKind.i64.wrap ((ix : Int) + 1)), [], H2, true⟩ k) :
    resPS (S F) TL N 9 fuel 6 2 n0 [] pP (m + 1) ⟨L6 (.isl 3 (row encSt l)) (.isl 3 (row encSt m2)) i j ix, [], H, true⟩ k := by
  rw [step6]
  refine cD (by rw [row_length, row_length]; exact lt_max hx) ?_
  by_cases hi : ix < l.length
  · refine cD (by rw [row_length]; omega) (cD (by omega) ?_)
    rw [Int.toNat_natCast, step_at hi]
    refine cT rfl (cT rfl (cT rfl (cT rfl (ldg (blk_new rfl) cell0 ?_))))
    rintro H1 rfl
    have hH : H.length < (H ++ [some (Blk.mk (AV.agg 3 [AV.bool false, AV.int IntKind.i64 0, AV.int IntKind.i64 0]) false true)]).length := by simp
    have hb := blk_set (b := ⟨.agg 3 [.bool l[ix].drop, .int .i64 l[ix].s, .int .i64 l[ix].pg], false, true⟩) hH rfl
    have hK : Keep [] H ((H ++ [some (Blk.mk (AV.agg 3 [AV.bool false, AV.int IntKind.i64 0, AV.int IntKind.i64 0]) false true)]).set H.length (some ⟨.agg 3 [.bool l[ix].drop, .int .i64 l[ix].s, .int .i64 l[ix].pg], false, true⟩)) := (Keep.refl _ H).appIn.setIn (.inr (Nat.le_refl _))
    have x1 := x.keep hK
    have hlt := blk_lt hb
    have hcn : H.length ∉ i :: ip :: refsL vs := fun hx => by have := x.p1.lt _ hx; omega
    refine ldg hb cellA (cT rfl ?_)
    by_cases hd : l[ix].drop = true
    · refine cT hd (ldg hb cellC (cT rfl (ldg hb cellC (cT rfl ⟨i, ip, vs, ls, 0, l[ix].pg, rfl, x1.p1, fun H2 vs' h2 hn => ?_⟩))))
      have hb2 := (hn.keep.blk hlt hcn).trans hb
      refine ⟨j, jp, ws, ms, 0, l[ix].pg, rfl, x1.p2.keep' hn.keep x1.dis.symm, fun H3 ws' h3 hn3 => ?_⟩
      refine ldg hb2 cellC (cT beq_int (cF ?_ ?_))
      · rw [dropE_0 x.l1 x.l2 x.eq]
        simp
      have d1 := x1.dis.next hn x1.p2.lt
      have d2 := (d1.symm.next hn3 h2.lt).symm
      have x3 : Inv6 H3 i ip j jp vs' ws' (dropS ls 0 l[ix].pg) (dropS ms 0 l[ix].pg) := ⟨h2.keep' hn3.keep d1, h3, by rw [dropS_len, x.l1], by rw [dropS_len, x.l2], by rw [dropS_0 x.l1, dropS_0 x.l2, x.eq], dropS_good x.g1 _ _, dropS_good x.g2 _ _, d2⟩
      exact bpart6 x3 fun H4 vs4 ls4 x4 => hk H4 _ _ _ _ x4
    · have hd : l[ix].drop = false := by simpa using hd
      refine cF hd (ldg hb cellC (cT rfl (ldg hb cellC (cT rfl ⟨i, ip, vs, ls, 0, l[ix].pg, rfl, x1.p1, fun H2 vs' h2 hn => ?_⟩))))
      have hb2 := (hn.keep.blk hlt hcn).trans hb
      refine ⟨j, jp, ws, ms, 0, l[ix].pg, rfl, x1.p2.keep' hn.keep x1.dis.symm, fun H3 ws' h3 hn3 => ?_⟩
      refine ldg hb2 cellC (cT beq_int (cF ?_ ?_))
      · rw [addE_0 x.l1 x.l2 x.eq]
        simp
      have d1 := x1.dis.next hn x1.p2.lt
      have d2 := (d1.symm.next hn3 h2.lt).symm
      have x3 : Inv6 H3 i ip j jp vs' ws' (addS ls 0 l[ix].pg) (addS ms 0 l[ix].pg) := ⟨h2.keep' hn3.keep d1, h3, by rw [addS_len, x.l1], by rw [addS_len, x.l2], by rw [addS_0 x.l1, addS_0 x.l2, x.eq], addS_good x.g1 _ _, addS_good x.g2 _ _, d2⟩
      exact bpart6 x3 fun H4 vs4 ls4 x4 => hk H4 _ _ _ _ x4
  · exact cN (by rw [row_length]; omega) (bpart6 x fun H4 vs4 ls4 x4 => hk H4 _ _ _ _ x4)
theorem stepA6n {H : Heap} {ix : Nat} (hx : ix < m2.length) (x : Inv6 H i ip j jp vs ws ls ms)
    (hk : ∀ H2 vs' ws' ls' ms', Inv6 H2 i ip j jp vs' ws' ls' ms' → resPS (S F) TL N 9 fuel 6 2 n0 [] pP m ⟨L6 .nils (.isl 3 (row encSt m2)) i j (IntKind.i64.wrap ((ix : Int) + 1)), [], H2, true⟩ k) :
    resPS (S F) TL N 9 fuel 6 2 n0 [] pP (m + 1) ⟨L6 .nils (.isl 3 (row encSt m2)) i j ix, [], H, true⟩ k := by
  rw [step6n]
  refine cD (by rw [row_length]; exact lt_max (b := 0) (.inr hx)) (cN (by omega) ?_)
  exact bpart6 x fun H4 vs4 ls4 x4 => hk H4 _ _ _ _ x4
theorem stepA6m {H : Heap} {ix : Nat} (hx : ix < l.length) (x : Inv6 H i ip j jp vs ws ls ms)
    (hk : ∀ H2 vs' ws' ls' ms', Inv6 H2 i ip j jp vs' ws' ls' ms' → resPS (S F) TL N 9 fuel 6 2 n0 [] pP m ⟨L6 (.isl 3 (row encSt l)) .nils i j (IntKind.i64.wrap ((ix : Int) + 1)), [], H2, true⟩ k) :
    resPS (S F) TL N 9 fuel 6 2 n0 [] pP (m + 1) ⟨L6 (.isl 3 (row encSt l)) .nils i j ix, [], H, true⟩ k := by
  rw [step6m]
  have hi := hx
  refine cD (by rw [row_length]; exact lt_max (a := 0) (.inl hx)) ?_
  refine cD (by rw [row_length]; omega) (cD (by omega) ?_)
  rw [Int.toNat_natCast, step_at hi]
  refine cT rfl (cT rfl (cT rfl (cT rfl (ldg (blk_new rfl) cell0 ?_))))
  rintro H1 rfl
  have hH : H.length < (H ++ [some (Blk.mk (AV.agg 3 [AV.bool false, AV.int IntKind.i64 0, AV.int IntKind.i64 0]) false true)]).length := by simp
  have hb := blk_set (b := ⟨.agg 3 [.bool l[ix].drop, .int .i64 l[ix].s, .int .i64 l[ix].pg], false, true⟩) hH rfl
  have hK : Keep [] H ((H ++ [some (Blk.mk (AV.agg 3 [AV.bool false, AV.int IntKind.i64 0, AV.int IntKind.i64 0]) false true)]).set H.length (some ⟨.agg 3 [.bool l[ix].drop, .int .i64 l[ix].s, .int .i64 l[ix].pg], false, true⟩)) := (Keep.refl _ H).appIn.setIn (.inr (Nat.le_refl _))
  have x1 := x.keep hK
  have hlt := blk_lt hb
  have hcn : H.length ∉ i :: ip :: refsL vs := fun hx => by have := x.p1.lt _ hx; omega
  refine ldg hb cellA (cT rfl ?_)
  by_cases hd : l[ix].drop = true
  · refine cT hd (ldg hb cellC (cT rfl (ldg hb cellC (cT rfl ⟨i, ip, vs, ls, 0, l[ix].pg, rfl, x1.p1, fun H2 vs' h2 hn => ?_⟩))))
    have hb2 := (hn.keep.blk hlt hcn).trans hb
    refine ⟨j, jp, ws, ms, 0, l[ix].pg, rfl, x1.p2.keep' hn.keep x1.dis.symm, fun H3 ws' h3 hn3 => ?_⟩
    refine ldg hb2 cellC (cT beq_int (cF ?_ ?_))
    · rw [dropE_0 x.l1 x.l2 x.eq]
      simp
    have d1 := x1.dis.next hn x1.p2.lt
    have d2 := (d1.symm.next hn3 h2.lt).symm
    have x3 : Inv6 H3 i ip j jp vs' ws' (dropS ls 0 l[ix].pg) (dropS ms 0 l[ix].pg) := ⟨h2.keep' hn3.keep d1, h3, by rw [dropS_len, x.l1], by rw [dropS_len, x.l2], by rw [dropS_0 x.l1, dropS_0 x.l2, x.eq], dropS_good x.g1 _ _, dropS_good x.g2 _ _, d2⟩
    exact cN (by omega) (tail6 x3 fun H4 x4 => hk H4 _ _ _ _ x4)
  · have hd : l[ix].drop = false := by simpa using hd
    refine cF hd (ldg hb cellC (cT rfl (ldg hb cellC (cT rfl ⟨i, ip, vs, ls, 0, l[ix].pg, rfl, x1.p1, fun H2 vs' h2 hn => ?_⟩))))
    have hb2 := (hn.keep.blk hlt hcn).trans hb
    refine ⟨j, jp, ws, ms, 0, l[ix].pg, rfl, x1.p2.keep' hn.keep x1.dis.symm, fun H3 ws' h3 hn3 => ?_⟩
    refine ldg hb2 cellC (cT beq_int (cF ?_ ?_))
    · rw [addE_0 x.l1 x.l2 x.eq]
      simp
    have d1 := x1.dis.next hn x1.p2.lt
    have d2 := (d1.symm.next hn3 h2.lt).symm
    have x3 : Inv6 H3 i ip j jp vs' ws' (addS ls 0 l[ix].pg) (addS ms 0 l[ix].pg) := ⟨h2.keep' hn3.keep d1, h3, by rw [addS_len, x.l1], by rw [addS_len, x.l2], by rw [addS_0 x.l1, addS_0 x.l2, x.eq], addS_good x.g1 _ _, addS_good x.g2 _ _, d2⟩
    exact cN (by omega) (tail6 x3 fun H4 x4 => hk H4 _ _ _ _ x4)
/-! ### The second loop -/
/-- How many pins of pages below j there are. -/
def tot (ls : List (List Int)) : Nat → Nat
  | 0 => 0
  | j + 1 => tot ls j + cntL (j : Int) ls
theorem tot_nil : ∀ j, tot [] j = 0
  | 0 => rfl
  | j + 1 => by rw [tot, tot_nil j]; rfl
theorem tot_cons (a : List Int) (ls : List (List Int)) : ∀ j, tot (a :: ls) j = tot [a] j + tot ls j
  | 0 => rfl
  | j + 1 => by
    have e : cntL (j : Int) (a :: ls) = cntL (j : Int) [a] + cntL (j : Int) ls := by simp [cntL]
    rw [tot, tot, tot, tot_cons a ls j, e]
    omega
theorem tot_elem (x : Int) (a : List Int) : ∀ j, tot [x :: a] j = tot [a] j + if 0 ≤ x ∧ x < j then 1 else 0
  | 0 => by
    rw [if_neg (by omega)]
    rfl
  | j + 1 => by
    have e : cntL (j : Int) [x :: a] = cntL (j : Int) [a] + if x = (j : Int) then 1 else 0 := by
      simp [cntL, List.count_cons]
    rw [tot, tot, tot_elem x a j, e]
    by_cases h : x = (j : Int)
    · rw [if_pos h, if_neg (by omega), if_pos (by omega)]
      omega
    · rw [if_neg h]
      by_cases h2 : 0 ≤ x ∧ x < j
      · rw [if_pos h2, if_pos (by omega)]
        omega
      · rw [if_neg h2, if_neg (by omega)]
        omega
theorem tot_one : ∀ {a : List Int}, (∀ x ∈ a, 0 ≤ x ∧ x < 64) → tot [a] 64 = a.length
  | [], _ => by decide
  | x :: a, h => by
    rw [tot_elem, tot_one fun y hy => h y (List.mem_cons_of_mem _ hy), if_pos (show 0 ≤ x ∧ x < ((64 : Nat) : Int) from h x List.mem_cons_self)]
    rfl
theorem tot_two (hl : ls.length = 2) (hg : AllGood ls) : tot ls 64 = (ls.getD 0 []).length + (ls.getD 1 []).length := by
  match ls, hl with
  | [a, b], _ =>
    rw [tot_cons, tot_one (hg a (by simp)).range, tot_one (hg b (by simp)).range]
    rfl
theorem cnt_le (hl : ls.length = 2) (hg : AllGood ls) (pg : Int) : cntL pg ls ≤ 32 := by
  match ls, hl with
  | [a, b], _ =>
    have h1 := (hg a (by simp)).len
    have h2 := (hg b (by simp)).len
    have h3 := List.count_le_length (a := pg) (l := a)
    have h4 := List.count_le_length (a := pg) (l := b)
    simp only [cntL, List.map_cons, List.map_nil, List.sum_cons, List.sum_nil]
    omega
theorem loop6b {H : Heap} (h : PinsR H i ip vs ls) (hl : ls.length = 2) (hg : AllGood ls) (hk : ∀ H, k (.bool true) H true) : ∀ (d q m : Nat), q + d = 64 → d < m → tot ls q ≤ 32 * q →
    resPS (S F) TL N 9 fuel 6 2 n0 [] pP2 m ⟨L6b i (tot ls q : Nat) q, [], H, true⟩ k
  | _, _, 0, _, h, _ => by omega
  | 0, q, m + 1, hd, _, _ => by
    obtain rfl : q = 64 := by omega
    have o1 : OkS ls 0 := ⟨by omega, by rw [hl]; omega⟩
    have o2 : OkS ls 1 := ⟨by omega, by rw [hl]; omega⟩
    have ht := tot_two hl hg
    have h16 := (getD_good hg o1).len
    have h17 := (getD_good hg o2).len
    have e0 : (Int.toNat 0) = 0 := rfl
    have e1 : (Int.toNat 1) = 1 := rfl
    rw [e0] at h16
    rw [e1] at h17
    rw [step6b]
    refine cN (by omega) ⟨i, ip, vs, ls, 0, rfl, h, fun ho H2 K1 => ?_, fun _ k0 H2 _ _ K1 => ?_⟩
    · have z0 := ho.resolve_left (fun h => h o1)
      refine ⟨i, ip, vs, ls, 1, rfl, h.keep' K1 (by simp), fun ho2 H3 K2 => cT ?_ ⟨rfl, hk _⟩, fun _ k1 H3 _ _ K2 => cT ?_ ⟨rfl, hk _⟩⟩
      · have z1 := ho2.resolve_left (fun h => h o2)
        rw [e0] at z0
        rw [e1] at z1
        rw [ht, z0, z1]
        rfl
      · rw [e0] at z0
        have h00 : ((([] : List Int).length : Nat) : Int) = 0 := rfl
        rw [e1, ht, z0, wrapI (by omega) (by omega)]
        simp
    · refine ⟨i, ip, vs, ls, 1, rfl, h.keep' K1 (by simp), fun ho2 H3 K2 => cT ?_ ⟨rfl, hk _⟩, fun _ k1 H3 _ _ K2 => cT ?_ ⟨rfl, hk _⟩⟩
      · have z1 := ho2.resolve_left (fun h => h o2)
        rw [e1] at z1
        have h00 : ((([] : List Int).length : Nat) : Int) = 0 := rfl
        rw [e0, ht, z1, wrapI (by omega) (by omega)]
        simp
      · rw [e0, e1, ht, wrapI (by omega) (by omega)]
        simp
  | d + 1, q, m + 1, hd, hm, ht => by
    have hc := cnt_le hl hg (q : Int)
    have hw : IntKind.i64.wrap ((q : Int) + 1) = ((q + 1 : Nat) : Int) := wrapS (by omega)
    have hwc : IntKind.i64.wrap (((tot ls q : Nat) : Int) + ((cntL (q : Int) ls : Nat) : Int)) = ((tot ls (q + 1) : Nat) : Int) := by
      rw [wrapI (by omega) (by omega), tot]
      omega
    rw [step6b]
    refine cD (by omega) ⟨i, ip, vs, ls, (q : Int), rfl, h, ?_⟩
    rw [hw, hwc]
    exact loop6b h hl hg hk d (q + 1) m (by omega) (by omega) (by rw [tot]; omega)
/-! ### The first loop -/
theorem second6 {H : Heap} (x : Inv6 H i ip j jp vs ws ls ms) (hk : ∀ H, k (.bool true) H true) : resPS (S F) TL N 9 (S F).fu 6 2 n0 [] pP2 (S F).fu ⟨L6b i 0 0, [], H, true⟩ k :=
  loop6b x.p1 x.l1 x.g1 hk 64 0 (S F).fu (by omega) (by rw [S_fu]; omega) (by simp [tot])
theorem loop6 (h1 : l.length ≤ 60) (h2 : m2.length ≤ 60) (hk : ∀ H, k (.bool true) H true) : ∀ (d ix m : Nat) (H : Heap) (vs ws : List AV) (ls ms : List (List Int)), ix + d = max l.length m2.length → d < m → Inv6 H i ip j jp vs ws ls ms →
    resPS (S F) TL N 9 (S F).fu 6 2 n0 [] pP m ⟨L6 (.isl 3 (row encSt l)) (.isl 3 (row encSt m2)) i j ix, [], H, true⟩ k
  | _, _, 0, _, _, _, _, _, _, h, _ => by omega
  | 0, ix, m + 1, H, vs, ws, ls, ms, hd, _, x => by
    rw [step6]
    exact cN (by rw [row_length, row_length]; exact not_lt_max (by omega) (by omega)) (second6 x hk)
  | d + 1, ix, m + 1, H, vs, ws, ls, ms, hd, hm, x => by
    have hw : IntKind.i64.wrap ((ix : Int) + 1) = ((ix + 1 : Nat) : Int) := wrapS (by omega)
    refine stepA6 (by omega) x fun H2 vs' ws' ls' ms' x2 => ?_
    rw [hw]
    exact loop6 h1 h2 hk d (ix + 1) m H2 vs' ws' ls' ms' (by omega) (by omega) x2
theorem loop6n (h2 : m2.length ≤ 60) (hk : ∀ H, k (.bool true) H true) : ∀ (d ix m : Nat) (H : Heap) (vs ws : List AV) (ls ms : List (List Int)), ix + d = m2.length → d < m → Inv6 H i ip j jp vs ws ls ms →
    resPS (S F) TL N 9 (S F).fu 6 2 n0 [] pP m ⟨L6 .nils (.isl 3 (row encSt m2)) i j ix, [], H, true⟩ k
  | _, _, 0, _, _, _, _, _, _, h, _ => by omega
  | 0, ix, m + 1, H, vs, ws, ls, ms, hd, _, x => by
    rw [step6n]
    exact cN (by rw [row_length]; exact not_lt_max (b := 0) (by omega) (by omega)) (second6 x hk)
  | d + 1, ix, m + 1, H, vs, ws, ls, ms, hd, hm, x => by
    have hw : IntKind.i64.wrap ((ix : Int) + 1) = ((ix + 1 : Nat) : Int) := wrapS (by omega)
    refine stepA6n (by omega) x fun H2 vs' ws' ls' ms' x2 => ?_
    rw [hw]
    exact loop6n h2 hk d (ix + 1) m H2 vs' ws' ls' ms' (by omega) (by omega) x2
theorem loop6m (h1 : l.length ≤ 60) (hk : ∀ H, k (.bool true) H true) : ∀ (d ix m : Nat) (H : Heap) (vs ws : List AV) (ls ms : List (List Int)), ix + d = l.length → d < m → Inv6 H i ip j jp vs ws ls ms →
    resPS (S F) TL N 9 (S F).fu 6 2 n0 [] pP m ⟨L6 (.isl 3 (row encSt l)) .nils i j ix, [], H, true⟩ k
  | _, _, 0, _, _, _, _, _, _, h, _ => by omega
  | 0, ix, m + 1, H, vs, ws, ls, ms, hd, _, x => by
    rw [step6m]
    exact cN (by rw [row_length]; exact not_lt_max (a := 0) (by omega) (by omega)) (second6 x hk)
  | d + 1, ix, m + 1, H, vs, ws, ls, ms, hd, hm, x => by
    have hw : IntKind.i64.wrap ((ix : Int) + 1) = ((ix + 1 : Nat) : Int) := wrapS (by omega)
    refine stepA6m (by omega) x fun H2 vs' ws' ls' ms' x2 => ?_
    rw [hw]
    exact loop6m h1 hk d (ix + 1) m H2 vs' ws' ls' ms' (by omega) (by omega) x2
theorem inv6_start {H H2 : Heap} (h1 : PinsR H i ip vs (List.replicate 2 [])) (hk : Keep [] H H2) (h2 : PinsR H2 j jp ws (List.replicate 2 [])) (hf : Fresh H (j :: jp :: refsL ws)) : Inv6 H2 i ip j jp vs ws (List.replicate 2 []) (List.replicate 2 []) :=
  ⟨h1.keep' hk (by simp), h2, rfl, rfl, rfl, allGood_nil 2, allGood_nil 2, fun y h3 h4 => by have := h1.lt y h3; have := hf y h4; omega⟩
theorem apart6 (N : Nat) (l m2 : List Stp) : runP (S F) TL N 9 (S F).fu 6 [.isl 3 (row encSt l), .isl 3 (row encSt m2)] [] fun v _ _ => v = .bool true := by
  rw [start6]
  by_cases p1 : ((row encSt l).length : Int) > 60
  · exact cD p1 ⟨rfl, rfl⟩
  refine cN p1 ?_
  by_cases p2 : ((row encSt m2).length : Int) > 60
  · exact cD p2 ⟨rfl, rfl⟩
  rw [row_length] at p1 p2
  refine cN (by rw [row_length]; exact p2) ⟨2, rfl, fun hn => absurd (by omega) hn, fun _ _ i ip vs H hp _ _ => ⟨2, rfl, fun hn => absurd (by omega) hn, fun _ _ j jp ws H2 hq hk hf => ?_⟩⟩
  exact loop6 (by omega) (by omega) (fun _ => rfl) (max l.length m2.length) 0 (S F).fu H2 vs ws _ _ (by omega) (by rw [S_fu]; omega) (inv6_start hp hk hq hf)
theorem apart6n (N : Nat) (m2 : List Stp) : runP (S F) TL N 9 (S F).fu 6 [.nils, .isl 3 (row encSt m2)] [] fun v _ _ => v = .bool true := by
  rw [start6n]
  by_cases p2 : ((row encSt m2).length : Int) > 60
  · exact cD p2 ⟨rfl, rfl⟩
  rw [row_length] at p2
  refine cN (by rw [row_length]; exact p2) ⟨2, rfl, fun hn => absurd (by omega) hn, fun _ _ i ip vs H hp _ _ => ⟨2, rfl, fun hn => absurd (by omega) hn, fun _ _ j jp ws H2 hq hk hf => ?_⟩⟩
  exact loop6n (by omega) (fun _ => rfl) m2.length 0 (S F).fu H2 vs ws _ _ (by omega) (by rw [S_fu]; omega) (inv6_start hp hk hq hf)
theorem apart6m (N : Nat) (l : List Stp) : runP (S F) TL N 9 (S F).fu 6 [.isl 3 (row encSt l), .nils] [] fun v _ _ => v = .bool true := by
  rw [start6m]
  by_cases p1 : ((row encSt l).length : Int) > 60
  · exact cD p1 ⟨rfl, rfl⟩
  rw [row_length] at p1
  refine cN (by rw [row_length]; exact p1) ⟨2, rfl, fun hn => absurd (by omega) hn, fun _ _ i ip vs H hp _ _ => ⟨2, rfl, fun hn => absurd (by omega) hn, fun _ _ j jp ws H2 hq hk hf => ?_⟩⟩
  exact loop6m (by omega) (fun _ => rfl) l.length 0 (S F).fu H2 vs ws _ _ (by omega) (by rw [S_fu]; omega) (inv6_start hp hk hq hf)
theorem apart6z (N : Nat) : runP (S F) TL N 9 (S F).fu 6 [.nils, .nils] [] fun v _ _ => v = .bool true := by
  rw [start6z]
  refine ⟨2, rfl, fun hn => absurd (by omega) hn, fun _ _ i ip vs H hp _ _ => ⟨2, rfl, fun hn => absurd (by omega) hn, fun _ _ j jp ws H2 hq hk hf => ?_⟩⟩
  have hst := step6z (F := F) N (S F).fu (F + 4999) 0 i j H2 (fun v _ _ => v = .bool true)
  rw [show (F + 4999) + 1 = (S F).fu from rfl] at hst
  exact hst.symm ▸ second6 (inv6_start hp hk hq hf) (fun _ => rfl)
end Go.Proofs.Ytclmndonaljppaa
