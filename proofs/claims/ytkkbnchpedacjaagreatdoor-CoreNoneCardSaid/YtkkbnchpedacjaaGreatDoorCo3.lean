/-
  Facts of calls, level 3.
-/
import Derived.Test.YtkkbnchpedacjaaGreatDoorCo2
namespace Go.Proofs.YtkkbnchpedacjaaGreatDoor
open Go Go.X
set_option maxRecDepth 100000
noncomputable def Coh14 : Heap := ((bk false false (.agg 4 [(.sl ⟨1, 0, [], 12800⟩ 64 200 0 200), .nils, (.int .i64 (.negSucc 0)), (ni 203)])) :: ((bk true true (.arr 64 ((.arr 1 ((nb 82) :: ((nb 0) :: ((nb 2) :: (rp 3 (nb 0) ((nb 16) :: ((nb 8) :: ((nb 24) :: ((nb 4) :: (rp 2 (nb 0) ((nb 65) :: (rp 51 (nb 0) [])))))))))))) :: ((.arr 1 ((nb 82) :: ((nb 1) :: ((nb 2) :: (rp 61 (nb 0) []))))) :: ((.arr 1 ((nb 82) :: ((nb 0) :: ((nb 1) :: (rp 3 (nb 0) ((nb 16) :: ((nb 8) :: ((nb 24) :: ((nb 4) :: (rp 2 (nb 0) ((nb 1) :: (rp 51 (nb 0) [])))))))))))) :: ((.arr 1 ((nb 82) :: (rp 2 (nb 1) (rp 61 (nb 0) [])))) :: (rp 196 (.arr 1 (rp 64 (nb 0) [])) []))))))) :: (ro 10 none ((bk true true (.arr 1 (rp 16 (ni 0) []))) :: (ro 18 none ((bk true true (.arr 1 [(ni 1), (ni 2), (ni 3), (ni 4), (ni 5), (ni 6), (ni 7)])) :: (ro 7 none ((bk false false (.agg 9 [(.ptr ⟨0, 0, [], 4⟩), (.agg 4 [(ni 16), (ni 8), (ni 24), (ni 4)]), (.agg 4 [(ni 0), (ni 0), (.int .u32 (.ofNat 65)), (.sl ⟨54, 0, [], 7⟩ 1 7 0 7)])])) :: ((bk true true (.arr 1 (rp 8 (.int .u32 (.ofNat 65)) []))) :: ((bk false false (.agg 26 [(.ptr ⟨0, 0, [], 4⟩), (.agg 22 [(.agg 16 [(.int .u32 (.ofNat 2)), (.agg 4 [(ni 16), (ni 8), (ni 24), (ni 4)]), (ni 0), (ni 0), (.int .u32 (.ofNat 65)), (.arr 1 (rp 8 (ni 0) []))]), (.sl ⟨12, 0, [], 16⟩ 1 16 0 16), (.sl ⟨42, 0, [], 16⟩ 1 16 0 16), (.agg 4 [(ni 0), (ni 0), (.int .u32 (.ofNat 1)), (.sl ⟨31, 0, [], 7⟩ 1 7 0 7)])]), (.ptr ⟨39, 0, [], 9⟩), (.sl ⟨40, 0, [], 8⟩ 1 8 0 8), (.bool false)])) :: ((bk true true (.arr 1 (rp 16 (ni 0) []))) :: (ro 11 none ((bk true true (.arr 1 [(ni 1), (ni 2), (ni 3), (ni 4), (ni 5), (ni 6), (ni 7)])) :: [])))))))))))))
/-- silt/core.Open: 5202 steps -/
noncomputable def Cof4 : Fact := ⟨17, [(.ptr ⟨0, 0, [], 4⟩)], Coh4, (.tuple [(.ptr ⟨41, 0, [], 26⟩), (ni 0)]), Coh14, true⟩
theorem Cof4r : evalZQ false Tryz.prog U ann 1000 CoK2 CoT2 (txt Bool) 100 17 [(.ptr ⟨0, 0, [], 4⟩)] Coh4 (isRes (.tuple [(.ptr ⟨41, 0, [], 26⟩), (ni 0)]) Coh14 true) = true := of_whnf (by kernel_rfl)
theorem Cof4o : FactOk Tryz.prog U Cof4 := fact_ok CoS2 extU mixed hA (run_of_factZ (x := Cof4) CoH2 (printed Bool) Cof4r)
noncomputable def CoL3 : List Fact := [Cof0, Cof1, Cof2, Cof3, Cof4, Cof5, Cof6, Cof7, Cof8, Cof9]
theorem CoO3 : FactsOk Tryz.prog U CoL3 := .cons Cof0o (.cons Cof1o (.cons Cof2o (.cons Cof3o (.cons Cof4o (.cons Cof5o (.cons Cof6o (.cons Cof7o (.cons Cof8o (.cons Cof9o (FactsOk.nil))))))))))
noncomputable def CoK3 : Oracle := locMemo CoL3 CoKp
noncomputable def CoT3 : FuncId → Option (Hnd Bool) := locR CoL3 CoTp
theorem CoH3 : HkF false CoK3 CoT3 := hkf_loc false CoHp
theorem CoS3 (B : Nat) : OracleSound Tryz.prog B U.G CoK3 := locMemo_sound CoO3 CoSp B
end Go.Proofs.YtkkbnchpedacjaaGreatDoor
