/-
  Facts of calls, level 3.
-/
import Derived.Test.YtkkbnchpedacjaaGreatDoorSo2
namespace Go.Proofs.YtkkbnchpedacjaaGreatDoor
open Go Go.X
set_option maxRecDepth 100000
noncomputable def Soh14 : Heap := ((bk false false (.agg 4 [(.sl ⟨1, 0, [], 12544⟩ 64 196 0 196), .nils, (.int .i64 (.negSucc 0)), (ni 203)])) :: ((bk true true (.arr 64 ((.arr 1 ((nb 82) :: ((nb 0) :: ((nb 2) :: (rp 3 (nb 0) ((nb 16) :: ((nb 8) :: ((nb 24) :: ((nb 4) :: (rp 2 (nb 0) ((nb 65) :: (rp 51 (nb 0) [])))))))))))) :: ((.arr 1 ((nb 82) :: ((nb 1) :: ((nb 2) :: (rp 61 (nb 0) []))))) :: ((.arr 1 ((nb 82) :: ((nb 0) :: ((nb 1) :: (rp 3 (nb 0) ((nb 16) :: ((nb 8) :: ((nb 24) :: ((nb 4) :: (rp 2 (nb 0) ((nb 1) :: (rp 51 (nb 0) [])))))))))))) :: ((.arr 1 ((nb 82) :: (rp 2 (nb 1) (rp 61 (nb 0) [])))) :: (rp 192 (.arr 1 (rp 64 (nb 0) [])) []))))))) :: (ro 10 none ((bk true true (.arr 1 (rp 16 (ni 0) []))) :: (ro 18 none ((bk true true (.arr 1 [(ni 1), (ni 2), (ni 3), (ni 4), (ni 5), (ni 6), (ni 7)])) :: (ro 7 none ((bk false false (.agg 9 [(.ptr ⟨0, 0, [], 4⟩), (.agg 4 [(ni 16), (ni 8), (ni 24), (ni 4)]), (.agg 4 [(ni 0), (ni 0), (.int .u32 (.ofNat 65)), (.sl ⟨54, 0, [], 7⟩ 1 7 0 7)])])) :: ((bk true true (.arr 1 (rp 8 (.int .u32 (.ofNat 65)) []))) :: ((bk false false (.agg 26 [(.ptr ⟨0, 0, [], 4⟩), (.agg 22 [(.agg 16 [(.int .u32 (.ofNat 2)), (.agg 4 [(ni 16), (ni 8), (ni 24), (ni 4)]), (ni 0), (ni 0), (.int .u32 (.ofNat 65)), (.arr 1 (rp 8 (ni 0) []))]), (.sl ⟨12, 0, [], 16⟩ 1 16 0 16), (.sl ⟨42, 0, [], 16⟩ 1 16 0 16), (.agg 4 [(ni 0), (ni 0), (.int .u32 (.ofNat 1)), (.sl ⟨31, 0, [], 7⟩ 1 7 0 7)])]), (.ptr ⟨39, 0, [], 9⟩), (.sl ⟨40, 0, [], 8⟩ 1 8 0 8), (.bool false)])) :: ((bk true true (.arr 1 (rp 16 (ni 0) []))) :: (ro 11 none ((bk true true (.arr 1 [(ni 1), (ni 2), (ni 3), (ni 4), (ni 5), (ni 6), (ni 7)])) :: [])))))))))))))
/-- silt/core.Open: 5202 steps -/
noncomputable def Sof4 : Fact := ⟨17, [(.ptr ⟨0, 0, [], 4⟩)], Soh4, (.tuple [(.ptr ⟨41, 0, [], 26⟩), (ni 0)]), Soh14, true⟩
theorem Sof4r : evalZQ false Tryz.prog U ann 1000 SoK2 SoT2 (txt Bool) 100 17 [(.ptr ⟨0, 0, [], 4⟩)] Soh4 (isRes (.tuple [(.ptr ⟨41, 0, [], 26⟩), (ni 0)]) Soh14 true) = true := of_whnf (by kernel_rfl)
theorem Sof4o : FactOk Tryz.prog U Sof4 := fact_ok SoS2 extU mixed hA (run_of_factZ (x := Sof4) SoH2 (printed Bool) Sof4r)
noncomputable def SoL3 : List Fact := [Sof0, Sof1, Sof2, Sof3, Sof4, Sof5, Sof6, Sof7, Sof8, Sof9]
theorem SoO3 : FactsOk Tryz.prog U SoL3 := .cons Sof0o (.cons Sof1o (.cons Sof2o (.cons Sof3o (.cons Sof4o (.cons Sof5o (.cons Sof6o (.cons Sof7o (.cons Sof8o (.cons Sof9o (FactsOk.nil))))))))))
noncomputable def SoK3 : Oracle := locMemo SoL3 SoKp
noncomputable def SoT3 : FuncId → Option (Hnd Bool) := locR SoL3 SoTp
theorem SoH3 : HkF false SoK3 SoT3 := hkf_loc false SoHp
theorem SoS3 (B : Nat) : OracleSound Tryz.prog B U.G SoK3 := locMemo_sound SoO3 SoSp B
end Go.Proofs.YtkkbnchpedacjaaGreatDoor
