/-
  Facts of calls, level 2.
-/
import Derived.Test.YtkkbnchpedacjaaGreatDoorCa1
namespace Go.Proofs.YtkkbnchpedacjaaGreatDoor
open Go Go.X
set_option maxRecDepth 100000
noncomputable def Cah12 : Heap := ((bk false false (.agg 4 [(.sl ⟨1, 0, [], 12544⟩ 64 196 0 196), .nils, (.int .i64 (.negSucc 0)), (ni 200)])) :: ((bk true true (.arr 64 (rp 2 (.arr 1 (rp 64 (nb 0) [])) ((.arr 1 ((nb 82) :: ((nb 0) :: ((nb 1) :: (rp 3 (nb 0) ((nb 16) :: ((nb 8) :: ((nb 24) :: ((nb 4) :: (rp 2 (nb 0) ((nb 1) :: (rp 51 (nb 0) [])))))))))))) :: ((.arr 1 ((nb 82) :: (rp 2 (nb 1) (rp 61 (nb 0) [])))) :: (rp 192 (.arr 1 (rp 64 (nb 0) [])) [])))))) :: (ro 9 none (ro 2 (bk true true (.arr 1 (rp 16 (ni 0) []))) (ro 17 none ((bk true true (.arr 1 [(ni 1), (ni 2), (ni 3), (ni 4), (ni 5), (ni 6), (ni 7)])) :: []))))))
/-- silt/recover.load: 7461 steps -/
noncomputable def Caf2 : Fact := ⟨71, [(.ptr ⟨0, 0, [], 4⟩)], Cah4, (.tuple [(.agg 22 [(.agg 16 [(.int .u32 (.ofNat 1)), (.agg 4 [(ni 16), (ni 8), (ni 24), (ni 4)]), (ni 0), (ni 0), (.int .u32 (.ofNat 1)), (.arr 1 (rp 8 (ni 0) []))]), (.sl ⟨11, 0, [], 16⟩ 1 16 0 16), (.sl ⟨12, 0, [], 16⟩ 1 16 0 16), (.agg 4 [(ni 0), (ni 0), (.int .u32 (.ofNat 1)), (.sl ⟨30, 0, [], 7⟩ 1 7 0 7)])]), .nili]), Cah12, true⟩
theorem Caf2r : evalZQ false Tryz.prog U ann 1000 CaK1 CaT1 (txt Bool) 100 71 [(.ptr ⟨0, 0, [], 4⟩)] Cah4 (isRes (.tuple [(.agg 22 [(.agg 16 [(.int .u32 (.ofNat 1)), (.agg 4 [(ni 16), (ni 8), (ni 24), (ni 4)]), (ni 0), (ni 0), (.int .u32 (.ofNat 1)), (.arr 1 (rp 8 (ni 0) []))]), (.sl ⟨11, 0, [], 16⟩ 1 16 0 16), (.sl ⟨12, 0, [], 16⟩ 1 16 0 16), (.agg 4 [(ni 0), (ni 0), (.int .u32 (.ofNat 1)), (.sl ⟨30, 0, [], 7⟩ 1 7 0 7)])]), .nili]) Cah12 true) = true := of_whnf (by kernel_rfl)
theorem Caf2o : FactOk Tryz.prog U Caf2 := fact_ok CaS1 extU mixed hA (run_of_factZ (x := Caf2) CaH1 (printed Bool) Caf2r)
noncomputable def Cah13 : Heap := ((bk false false (.agg 4 [(.sl ⟨1, 0, [], 12544⟩ 64 196 0 196), .nils, (.int .i64 (.negSucc 0)), (ni 206)])) :: ((bk true true (.arr 64 ((.arr 1 ((nb 82) :: ((nb 0) :: ((nb 2) :: (rp 3 (nb 0) ((nb 16) :: ((nb 8) :: ((nb 24) :: ((nb 4) :: (rp 2 (nb 0) ((nb 65) :: (rp 51 (nb 0) [])))))))))))) :: ((.arr 1 ((nb 82) :: ((nb 1) :: ((nb 2) :: (rp 61 (nb 0) []))))) :: ((.arr 1 ((nb 82) :: ((nb 0) :: ((nb 1) :: (rp 3 (nb 0) ((nb 16) :: ((nb 8) :: ((nb 24) :: ((nb 4) :: (rp 2 (nb 0) ((nb 1) :: (rp 51 (nb 0) [])))))))))))) :: ((.arr 1 ((nb 82) :: (rp 2 (nb 1) (rp 61 (nb 0) [])))) :: ((.arr 1 ((nb 83) :: ((nb 0) :: ((nb 65) :: (rp 3 (nb 0) (rp 2 (nb 1) (rp 56 (nb 0) []))))))) :: ((.arr 1 ((nb 1) :: ((nb 0) :: ((nb 65) :: (rp 5 (nb 0) ((nb 7) :: (rp 55 (nb 0) []))))))) :: (rp 190 (.arr 1 (rp 64 (nb 0) [])) []))))))))) :: (ro 9 none ((bk true true (.arr 1 ((ni 5) :: (rp 15 (ni 0) [])))) :: ((bk true true (.arr 1 (rp 16 (ni 0) []))) :: (ro 17 none ((bk true true (.arr 1 [(ni 1), (ni 2), (ni 3), (ni 4), (ni 5), (ni 6), (ni 7)])) :: [])))))))
/-- silt/recover.load: 8227 steps -/
noncomputable def Caf7 : Fact := ⟨71, [(.ptr ⟨0, 0, [], 4⟩)], Cah9, (.tuple [(.agg 22 [(.agg 16 [(.int .u32 (.ofNat 2)), (.agg 4 [(ni 16), (ni 8), (ni 24), (ni 4)]), (ni 0), (ni 0), (.int .u32 (.ofNat 65)), (.arr 1 (rp 8 (ni 0) []))]), (.sl ⟨11, 0, [], 16⟩ 1 16 0 16), (.sl ⟨12, 0, [], 16⟩ 1 16 0 16), (.agg 4 [(ni 0), (ni 2), (.int .u32 (.ofNat 66)), (.sl ⟨30, 0, [], 7⟩ 1 7 0 7)])]), .nili]), Cah13, true⟩
theorem Caf7r : evalZQ false Tryz.prog U ann 1000 CaK1 CaT1 (txt Bool) 100 71 [(.ptr ⟨0, 0, [], 4⟩)] Cah9 (isRes (.tuple [(.agg 22 [(.agg 16 [(.int .u32 (.ofNat 2)), (.agg 4 [(ni 16), (ni 8), (ni 24), (ni 4)]), (ni 0), (ni 0), (.int .u32 (.ofNat 65)), (.arr 1 (rp 8 (ni 0) []))]), (.sl ⟨11, 0, [], 16⟩ 1 16 0 16), (.sl ⟨12, 0, [], 16⟩ 1 16 0 16), (.agg 4 [(ni 0), (ni 2), (.int .u32 (.ofNat 66)), (.sl ⟨30, 0, [], 7⟩ 1 7 0 7)])]), .nili]) Cah13 true) = true := of_whnf (by kernel_rfl)
theorem Caf7o : FactOk Tryz.prog U Caf7 := fact_ok CaS1 extU mixed hA (run_of_factZ (x := Caf7) CaH1 (printed Bool) Caf7r)
noncomputable def CaL2 : List Fact := [Caf0, Caf1, Caf2, Caf3, Caf5, Caf6, Caf7, Caf8, Caf9]
theorem CaO2 : FactsOk Tryz.prog U CaL2 := .cons Caf0o (.cons Caf1o (.cons Caf2o (.cons Caf3o (.cons Caf5o (.cons Caf6o (.cons Caf7o (.cons Caf8o (.cons Caf9o (FactsOk.nil)))))))))
noncomputable def CaK2 : Oracle := locMemo CaL2 CaKp
noncomputable def CaT2 : FuncId → Option (Hnd Bool) := locR CaL2 CaTp
theorem CaH2 : HkF false CaK2 CaT2 := hkf_loc false CaHp
theorem CaS2 (B : Nat) : OracleSound Tryz.prog B U.G CaK2 := locMemo_sound CaO2 CaSp B
end Go.Proofs.YtkkbnchpedacjaaGreatDoor
