/-
  Facts of calls, level 2.
-/
import Derived.Test.YtkkbnchpedacjaaGreatDoorCr1
namespace Go.Proofs.YtkkbnchpedacjaaGreatDoor
open Go Go.X
set_option maxRecDepth 100000
noncomputable def Crh12 : Heap := ((bk false false (.agg 4 [(.sl ⟨1, 0, [], 12544⟩ 64 196 0 196), .nils, (.int .i64 (.negSucc 0)), (ni 200)])) :: ((bk true true (.arr 64 (rp 2 (.arr 1 (rp 64 (nb 0) [])) ((.arr 1 ((nb 82) :: ((nb 0) :: ((nb 1) :: (rp 3 (nb 0) ((nb 16) :: ((nb 8) :: ((nb 24) :: ((nb 4) :: (rp 2 (nb 0) ((nb 1) :: (rp 51 (nb 0) [])))))))))))) :: ((.arr 1 ((nb 82) :: (rp 2 (nb 1) (rp 61 (nb 0) [])))) :: (rp 192 (.arr 1 (rp 64 (nb 0) [])) [])))))) :: (ro 9 none (ro 2 (bk true true (.arr 1 (rp 16 (ni 0) []))) (ro 17 none ((bk true true (.arr 1 [(ni 1), (ni 2), (ni 3), (ni 4), (ni 5), (ni 6), (ni 7)])) :: []))))))
/-- silt/recover.load: 7461 steps -/
noncomputable def Crf2 : Fact := ⟨71, [(.ptr ⟨0, 0, [], 4⟩)], Crh4, (.tuple [(.agg 22 [(.agg 16 [(.int .u32 (.ofNat 1)), (.agg 4 [(ni 16), (ni 8), (ni 24), (ni 4)]), (ni 0), (ni 0), (.int .u32 (.ofNat 1)), (.arr 1 (rp 8 (ni 0) []))]), (.sl ⟨11, 0, [], 16⟩ 1 16 0 16), (.sl ⟨12, 0, [], 16⟩ 1 16 0 16), (.agg 4 [(ni 0), (ni 0), (.int .u32 (.ofNat 1)), (.sl ⟨30, 0, [], 7⟩ 1 7 0 7)])]), .nili]), Crh12, true⟩
theorem Crf2r : evalZQ false Tryz.prog U ann 1000 CrK1 CrT1 (txt Bool) 100 71 [(.ptr ⟨0, 0, [], 4⟩)] Crh4 (isRes (.tuple [(.agg 22 [(.agg 16 [(.int .u32 (.ofNat 1)), (.agg 4 [(ni 16), (ni 8), (ni 24), (ni 4)]), (ni 0), (ni 0), (.int .u32 (.ofNat 1)), (.arr 1 (rp 8 (ni 0) []))]), (.sl ⟨11, 0, [], 16⟩ 1 16 0 16), (.sl ⟨12, 0, [], 16⟩ 1 16 0 16), (.agg 4 [(ni 0), (ni 0), (.int .u32 (.ofNat 1)), (.sl ⟨30, 0, [], 7⟩ 1 7 0 7)])]), .nili]) Crh12 true) = true := of_whnf (by kernel_rfl)
theorem Crf2o : FactOk Tryz.prog U Crf2 := fact_ok CrS1 extU mixed hA (run_of_factZ (x := Crf2) CrH1 (printed Bool) Crf2r)
noncomputable def Crh13 : Heap := ((bk false false (.agg 4 [(.sl ⟨1, 0, [], 12544⟩ 64 196 0 196), .nils, (.int .i64 (.negSucc 0)), (ni 207)])) :: ((bk true true (.arr 64 ((.arr 1 ((nb 82) :: ((nb 0) :: ((nb 2) :: (rp 3 (nb 0) ((nb 16) :: ((nb 8) :: ((nb 24) :: ((nb 4) :: (rp 2 (nb 0) ((nb 65) :: (rp 51 (nb 0) [])))))))))))) :: ((.arr 1 ((nb 82) :: ((nb 1) :: ((nb 2) :: (rp 61 (nb 0) []))))) :: ((.arr 1 ((nb 82) :: ((nb 0) :: ((nb 1) :: (rp 3 (nb 0) ((nb 16) :: ((nb 8) :: ((nb 24) :: ((nb 4) :: (rp 2 (nb 0) ((nb 1) :: (rp 51 (nb 0) [])))))))))))) :: ((.arr 1 ((nb 82) :: (rp 2 (nb 1) (rp 61 (nb 0) [])))) :: ((.arr 1 ((nb 83) :: ((nb 0) :: ((nb 65) :: (rp 3 (nb 0) ((nb 1) :: ((nb 4) :: (rp 56 (nb 0) [])))))))) :: ((.arr 1 ((nb 83) :: ((nb 0) :: ((nb 66) :: (rp 3 (nb 0) ((nb 1) :: ((nb 5) :: (rp 56 (nb 0) [])))))))) :: (rp 190 (.arr 1 (rp 64 (nb 0) [])) []))))))))) :: (ro 9 none (ro 2 (bk true true (.arr 1 (rp 16 (ni 0) []))) (ro 17 none ((bk true true (.arr 1 [(ni 1), (ni 2), (ni 3), (ni 4), (ni 5), (ni 6), (ni 7)])) :: []))))))
/-- silt/recover.load: 7631 steps -/
noncomputable def Crf8 : Fact := ⟨71, [(.ptr ⟨0, 0, [], 4⟩)], Crh11, (.tuple [(.agg 22 [(.agg 16 [(.int .u32 (.ofNat 2)), (.agg 4 [(ni 16), (ni 8), (ni 24), (ni 4)]), (ni 0), (ni 0), (.int .u32 (.ofNat 65)), (.arr 1 (rp 8 (ni 0) []))]), (.sl ⟨11, 0, [], 16⟩ 1 16 0 16), (.sl ⟨12, 0, [], 16⟩ 1 16 0 16), (.agg 4 [(ni 0), (ni 2), (.int .u32 (.ofNat 67)), (.sl ⟨30, 0, [], 7⟩ 1 7 0 7)])]), .nili]), Crh13, true⟩
theorem Crf8r : evalZQ false Tryz.prog U ann 1000 CrK1 CrT1 (txt Bool) 100 71 [(.ptr ⟨0, 0, [], 4⟩)] Crh11 (isRes (.tuple [(.agg 22 [(.agg 16 [(.int .u32 (.ofNat 2)), (.agg 4 [(ni 16), (ni 8), (ni 24), (ni 4)]), (ni 0), (ni 0), (.int .u32 (.ofNat 65)), (.arr 1 (rp 8 (ni 0) []))]), (.sl ⟨11, 0, [], 16⟩ 1 16 0 16), (.sl ⟨12, 0, [], 16⟩ 1 16 0 16), (.agg 4 [(ni 0), (ni 2), (.int .u32 (.ofNat 67)), (.sl ⟨30, 0, [], 7⟩ 1 7 0 7)])]), .nili]) Crh13 true) = true := of_whnf (by kernel_rfl)
theorem Crf8o : FactOk Tryz.prog U Crf8 := fact_ok CrS1 extU mixed hA (run_of_factZ (x := Crf8) CrH1 (printed Bool) Crf8r)
noncomputable def CrL2 : List Fact := [Crf0, Crf1, Crf2, Crf3, Crf5, Crf6, Crf7, Crf8, Crf9]
theorem CrO2 : FactsOk Tryz.prog U CrL2 := .cons Crf0o (.cons Crf1o (.cons Crf2o (.cons Crf3o (.cons Crf5o (.cons Crf6o (.cons Crf7o (.cons Crf8o (.cons Crf9o (FactsOk.nil)))))))))
noncomputable def CrK2 : Oracle := locMemo CrL2 CrKp
noncomputable def CrT2 : FuncId → Option (Hnd Bool) := locR CrL2 CrTp
theorem CrH2 : HkF false CrK2 CrT2 := hkf_loc false CrHp
theorem CrS2 (B : Nat) : OracleSound Tryz.prog B U.G CrK2 := locMemo_sound CrO2 CrSp B
end Go.Proofs.YtkkbnchpedacjaaGreatDoor
