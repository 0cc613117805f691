/-
  Facts of calls, level 2.
-/
import Derived.Test.YtkkbnchpedacjaaGreatDoorSt1
namespace Go.Proofs.YtkkbnchpedacjaaGreatDoor
open Go Go.X
set_option maxRecDepth 100000
noncomputable def Sth7 : Heap := [(bk false true (.agg 4 [(ni 16), (ni 8), (ni 24), (ni 4)])), (bk true true (.arr 64 (rp 196 (.arr 1 (rp 64 (nb 0) [])) []))), (bk false false (.agg 4 [(.sl ⟨1, 0, [], 12544⟩ 64 196 0 196), .nils, (.int .i64 (.negSucc 0)), (ni 0)]))]
noncomputable def Sth8 : Heap := ((bk false true (.agg 4 [(ni 16), (ni 8), (ni 24), (ni 4)])) :: ((bk true true (.arr 64 ((.arr 1 ((nb 82) :: ((nb 0) :: ((nb 2) :: (rp 3 (nb 0) ((nb 16) :: ((nb 8) :: ((nb 24) :: ((nb 4) :: (rp 2 (nb 0) ((nb 65) :: (rp 51 (nb 0) [])))))))))))) :: ((.arr 1 ((nb 82) :: ((nb 1) :: ((nb 2) :: (rp 61 (nb 0) []))))) :: ((.arr 1 ((nb 82) :: ((nb 0) :: ((nb 1) :: (rp 3 (nb 0) ((nb 16) :: ((nb 8) :: ((nb 24) :: ((nb 4) :: (rp 2 (nb 0) ((nb 1) :: (rp 51 (nb 0) [])))))))))))) :: ((.arr 1 ((nb 82) :: (rp 2 (nb 1) (rp 61 (nb 0) [])))) :: (rp 192 (.arr 1 (rp 64 (nb 0) [])) []))))))) :: ((bk false false (.agg 4 [(.sl ⟨1, 0, [], 12544⟩ 64 196 0 196), .nils, (.int .i64 (.negSucc 0)), (ni 203)])) :: (ro 11 none ((bk true true (.arr 1 (rp 16 (ni 0) []))) :: (ro 18 none ((bk true true (.arr 1 [(ni 1), (ni 2), (ni 3), (ni 4), (ni 5), (ni 6), (ni 7)])) :: (ro 7 none ((bk false false (.agg 9 [(.ptr ⟨2, 0, [], 4⟩), (.agg 4 [(ni 16), (ni 8), (ni 24), (ni 4)]), (.agg 4 [(ni 0), (ni 0), (.int .u32 (.ofNat 65)), (.sl ⟨56, 0, [], 7⟩ 1 7 0 7)])])) :: ((bk true true (.arr 1 (rp 8 (.int .u32 (.ofNat 65)) []))) :: ((bk false false (.agg 26 [(.ptr ⟨2, 0, [], 4⟩), (.agg 22 [(.agg 16 [(.int .u32 (.ofNat 2)), (.agg 4 [(ni 16), (ni 8), (ni 24), (ni 4)]), (ni 0), (ni 0), (.int .u32 (.ofNat 65)), (.arr 1 (rp 8 (ni 0) []))]), (.sl ⟨14, 0, [], 16⟩ 1 16 0 16), (.sl ⟨44, 0, [], 16⟩ 1 16 0 16), (.agg 4 [(ni 0), (ni 0), (.int .u32 (.ofNat 1)), (.sl ⟨33, 0, [], 7⟩ 1 7 0 7)])]), (.ptr ⟨41, 0, [], 9⟩), (.sl ⟨42, 0, [], 8⟩ 1 8 0 8), (.bool false)])) :: ((bk true true (.arr 1 (rp 16 (ni 0) []))) :: (ro 11 none ((bk true true (.arr 1 [(ni 1), (ni 2), (ni 3), (ni 4), (ni 5), (ni 6), (ni 7)])) :: []))))))))))))))
/-- silt/core.Format: 133280 steps -/
noncomputable def Stf4 : Fact := ⟨16, [(.ptr ⟨2, 0, [], 4⟩), (.agg 4 [(ni 16), (ni 8), (ni 24), (ni 4)])], Sth7, (.tuple [(.ptr ⟨43, 0, [], 26⟩), (ni 0)]), Sth8, true⟩
theorem Stf4r : evalZQ false Tryz.prog U ann 1000 StK1 StT1 (txt Bool) 100 16 [(.ptr ⟨2, 0, [], 4⟩), (.agg 4 [(ni 16), (ni 8), (ni 24), (ni 4)])] Sth7 (isRes (.tuple [(.ptr ⟨43, 0, [], 26⟩), (ni 0)]) Sth8 true) = true := of_whnf (by kernel_rfl)
theorem Stf4o : FactOk Tryz.prog U Stf4 := fact_ok StS1 extU mixed hA (run_of_factZ (x := Stf4) StH1 (printed Bool) Stf4r)
noncomputable def StL2 : List Fact := [Stf4]
theorem StO2 : FactsOk Tryz.prog U StL2 := .cons Stf4o (FactsOk.nil)
noncomputable def StK2 : Oracle := memoF StL2 StK0
noncomputable def StT2 : FuncId → Option (Hnd Bool) := memoR StL2 StT0
theorem StH2 : HkF false StK2 StT2 := HkF.memo false StH0
theorem StS2 (B : Nat) : OracleSound Tryz.prog B U.G StK2 := memo_sound StO2 StS0 B
end Go.Proofs.YtkkbnchpedacjaaGreatDoor
