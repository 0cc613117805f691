/-
  Facts of calls, level 2.
-/
import Derived.Test.YtkkbnchpedacjaaGreatDoorSo1
namespace Go.Proofs.YtkkbnchpedacjaaGreatDoor
open Go Go.X
set_option maxRecDepth 100000
noncomputable def Soh12 : Heap := ((bk false false (.agg 4 [(.sl ⟨1, 0, [], 12544⟩ 64 196 0 196), .nils, (.int .i64 (.negSucc 0)), (ni 200)])) :: ((bk true true (.arr 64 (rp 2 (.arr 1 (rp 64 (nb 0) [])) ((.arr 1 ((nb 82) :: ((nb 0) :: ((nb 1) :: (rp 3 (nb 0) ((nb 16) :: ((nb 8) :: ((nb 24) :: ((nb 4) :: (rp 2 (nb 0) ((nb 1) :: (rp 51 (nb 0) [])))))))))))) :: ((.arr 1 ((nb 82) :: (rp 2 (nb 1) (rp 61 (nb 0) [])))) :: (rp 192 (.arr 1 (rp 64 (nb 0) [])) [])))))) :: (ro 9 none (ro 2 (bk true true (.arr 1 (rp 16 (ni 0) []))) (ro 17 none ((bk true true (.arr 1 [(ni 1), (ni 2), (ni 3), (ni 4), (ni 5), (ni 6), (ni 7)])) :: []))))))
/-- silt/recover.load: 7461 steps -/
noncomputable def Sof2 : Fact := ⟨71, [(.ptr ⟨0, 0, [], 4⟩)], Soh4, (.tuple [(.agg 22 [(.agg 16 [(.int .u32 (.ofNat 1)), (.agg 4 [(ni 16), (ni 8), (ni 24), (ni 4)]), (ni 0), (ni 0), (.int .u32 (.ofNat 1)), (.arr 1 (rp 8 (ni 0) []))]), (.sl ⟨11, 0, [], 16⟩ 1 16 0 16), (.sl ⟨12, 0, [], 16⟩ 1 16 0 16), (.agg 4 [(ni 0), (ni 0), (.int .u32 (.ofNat 1)), (.sl ⟨30, 0, [], 7⟩ 1 7 0 7)])]), .nili]), Soh12, true⟩
theorem Sof2r : evalZQ false Tryz.prog U ann 1000 SoK1 SoT1 (txt Bool) 100 71 [(.ptr ⟨0, 0, [], 4⟩)] Soh4 (isRes (.tuple [(.agg 22 [(.agg 16 [(.int .u32 (.ofNat 1)), (.agg 4 [(ni 16), (ni 8), (ni 24), (ni 4)]), (ni 0), (ni 0), (.int .u32 (.ofNat 1)), (.arr 1 (rp 8 (ni 0) []))]), (.sl ⟨11, 0, [], 16⟩ 1 16 0 16), (.sl ⟨12, 0, [], 16⟩ 1 16 0 16), (.agg 4 [(ni 0), (ni 0), (.int .u32 (.ofNat 1)), (.sl ⟨30, 0, [], 7⟩ 1 7 0 7)])]), .nili]) Soh12 true) = true := of_whnf (by kernel_rfl)
theorem Sof2o : FactOk Tryz.prog U Sof2 := fact_ok SoS1 extU mixed hA (run_of_factZ (x := Sof2) SoH1 (printed Bool) Sof2r)
noncomputable def Soh13 : Heap := ((bk false false (.agg 4 [(.sl ⟨1, 0, [], 12544⟩ 64 196 0 196), .nils, (.int .i64 (.negSucc 0)), (ni 206)])) :: ((bk true true (.arr 64 ((.arr 1 ((nb 82) :: ((nb 0) :: ((nb 2) :: (rp 3 (nb 0) ((nb 16) :: ((nb 8) :: ((nb 24) :: ((nb 4) :: (rp 2 (nb 0) ((nb 65) :: (rp 51 (nb 0) [])))))))))))) :: ((.arr 1 ((nb 82) :: ((nb 1) :: ((nb 2) :: (rp 61 (nb 0) []))))) :: ((.arr 1 ((nb 82) :: ((nb 0) :: ((nb 1) :: (rp 3 (nb 0) ((nb 16) :: ((nb 8) :: ((nb 24) :: ((nb 4) :: (rp 2 (nb 0) ((nb 1) :: (rp 51 (nb 0) [])))))))))))) :: ((.arr 1 ((nb 82) :: (rp 2 (nb 1) (rp 61 (nb 0) [])))) :: ((.arr 1 ((nb 83) :: ((nb 0) :: ((nb 65) :: (rp 3 (nb 0) (rp 2 (nb 1) (rp 56 (nb 0) []))))))) :: ((.arr 1 ((nb 1) :: ((nb 0) :: ((nb 65) :: (rp 6 (nb 0) ((nb 7) :: (rp 54 (nb 0) []))))))) :: (rp 190 (.arr 1 (rp 64 (nb 0) [])) []))))))))) :: (ro 9 none ((bk true true (.arr 1 ((ni 5) :: (rp 15 (ni 0) [])))) :: ((bk true true (.arr 1 (rp 16 (ni 0) []))) :: (ro 17 none ((bk true true (.arr 1 [(ni 1), (ni 2), (ni 3), (ni 4), (ni 5), (ni 6), (ni 7)])) :: [])))))))
/-- silt/recover.load: 8227 steps -/
noncomputable def Sof7 : Fact := ⟨71, [(.ptr ⟨0, 0, [], 4⟩)], Soh9, (.tuple [(.agg 22 [(.agg 16 [(.int .u32 (.ofNat 2)), (.agg 4 [(ni 16), (ni 8), (ni 24), (ni 4)]), (ni 0), (ni 0), (.int .u32 (.ofNat 65)), (.arr 1 (rp 8 (ni 0) []))]), (.sl ⟨11, 0, [], 16⟩ 1 16 0 16), (.sl ⟨12, 0, [], 16⟩ 1 16 0 16), (.agg 4 [(ni 0), (ni 2), (.int .u32 (.ofNat 66)), (.sl ⟨30, 0, [], 7⟩ 1 7 0 7)])]), .nili]), Soh13, true⟩
theorem Sof7r : evalZQ false Tryz.prog U ann 1000 SoK1 SoT1 (txt Bool) 100 71 [(.ptr ⟨0, 0, [], 4⟩)] Soh9 (isRes (.tuple [(.agg 22 [(.agg 16 [(.int .u32 (.ofNat 2)), (.agg 4 [(ni 16), (ni 8), (ni 24), (ni 4)]), (ni 0), (ni 0), (.int .u32 (.ofNat 65)), (.arr 1 (rp 8 (ni 0) []))]), (.sl ⟨11, 0, [], 16⟩ 1 16 0 16), (.sl ⟨12, 0, [], 16⟩ 1 16 0 16), (.agg 4 [(ni 0), (ni 2), (.int .u32 (.ofNat 66)), (.sl ⟨30, 0, [], 7⟩ 1 7 0 7)])]), .nili]) Soh13 true) = true := of_whnf (by kernel_rfl)
theorem Sof7o : FactOk Tryz.prog U Sof7 := fact_ok SoS1 extU mixed hA (run_of_factZ (x := Sof7) SoH1 (printed Bool) Sof7r)
noncomputable def SoL2 : List Fact := [Sof0, Sof1, Sof2, Sof3, Sof5, Sof6, Sof7, Sof8, Sof9]
theorem SoO2 : FactsOk Tryz.prog U SoL2 := .cons Sof0o (.cons Sof1o (.cons Sof2o (.cons Sof3o (.cons Sof5o (.cons Sof6o (.cons Sof7o (.cons Sof8o (.cons Sof9o (FactsOk.nil)))))))))
noncomputable def SoK2 : Oracle := locMemo SoL2 SoKp
noncomputable def SoT2 : FuncId → Option (Hnd Bool) := locR SoL2 SoTp
theorem SoH2 : HkF false SoK2 SoT2 := hkf_loc false SoHp
theorem SoS2 (B : Nat) : OracleSound Tryz.prog B U.G SoK2 := locMemo_sound SoO2 SoSp B
end Go.Proofs.YtkkbnchpedacjaaGreatDoor
