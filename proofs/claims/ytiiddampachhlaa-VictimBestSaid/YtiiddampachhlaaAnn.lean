import Derived.Test.YtiiddampachhlaaProg
import Derived.Test.YtiiddampachhlaaX34
import Derived.KernelRfl
namespace Go.Proofs.Ytiiddampachhlaa
open Go.X
/-- main.main -/
def a0 : FAnn := ⟨0, [], [], [], false⟩
/-- gosem.cut -/
def a1 : FAnn := ⟨0, [], [], [], false⟩
/-- gosem.cut.init -/
def a2 : FAnn := ⟨0, [], [], [], true⟩
/-- silt/siltlaw12.VictimTwo -/
def a3 : FAnn := ⟨766247781850926311773833485824204221650184232478212083, [0, 1, 4, 5, 6, 7, 8, 9, 10, 11, 12, 13, 14, 22, 30, 41, 53, 57, 65, 72, 76, 92, 119, 128, 153, 179], [(0, 227), (2, 995), (4, 1251), (6, 2083), (8, 4131), (10, 28707)], [(27, ⟨[0, 1, 2, 3, 4, 5, 6, 7, 8, 9, 10, 11, 12, 13, 14, 15, 16, 17, 18, 19, 20, 21, 22, 23, 24, 25, 26], [], []⟩), (37, ⟨[0, 1, 2, 3, 4, 5, 6, 7, 8, 9, 10, 11, 12, 13, 14], [], []⟩)], true⟩
/-- silt/siltlaw12.VictimBest -/
def a4 : FAnn := ⟨332307078261434141790812617830305783, [0, 1, 2, 4, 5, 6, 7, 8, 9, 10, 11, 26, 42, 45, 58, 83, 86, 96, 118], [(0, 422), (2, 678)], [(18, ⟨[0, 1, 3, 4, 2, 5, 6, 7, 8, 9, 10, 11, 12, 13, 15, 16, 14, 17, 18, 19, 20, 21], [(3, [1]), (15, [4])], []⟩), (20, ⟨[0, 2, 4, 1, 3, 5, 6, 7, 8, 9, 10, 11, 12], [(0, [1, 2, 3, 4])], [5]⟩), (21, ⟨[0, 1, 2, 3, 4, 5, 6, 7, 8, 9, 10, 11, 12, 13, 14, 15, 16, 17, 19, 20, 18, 21, 22, 23, 24, 25, 26, 27, 28, 29], [(19, [1])], []⟩)], true⟩
/-- silt/siltlaw12.wakes -/
def a5 : FAnn := ⟨191, [0, 1, 2, 3, 4, 5, 7], [], [], true⟩
/-- silt/victim.Two -/
def a6 : FAnn := ⟨4198391, [0, 1, 2, 4, 5, 6, 7, 8, 9, 10, 11, 22], [(0, 1830)], [], true⟩
/-- silt/victim.Best -/
def a7 : FAnn := ⟨17592186963959, [0, 1, 2, 4, 5, 6, 7, 8, 9, 10, 17, 18, 19, 44], [(0, 393670)], [(6, ⟨[0, 1, 2, 3, 4, 5, 6, 7, 8, 9, 10, 11, 12, 13, 14, 15, 16], [(1, [1]), (4, [1]), (6, [1]), (9, [1]), (11, [1]), (13, [1])], []⟩), (8, ⟨[0, 1, 2, 3, 4], [], []⟩)], true⟩
/-- silt/siltlaw12.listed -/
def a8 : FAnn := ⟨131635, [0, 1, 4, 5, 9, 17], [(0, 35)], [], true⟩
/-- silt/victim.Above -/
def a9 : FAnn := ⟨511, [0, 1, 2, 3, 4, 5, 6, 7, 8], [], [], true⟩
/-- silt/siltlaw12.at -/
def a10 : FAnn := ⟨23, [0, 1, 2, 4], [], [(1, ⟨[0, 1, 2, 3, 4, 5, 6, 7, 8, 9, 10, 11, 12, 13, 14, 15], [], []⟩)], true⟩
/-- silt/siltkeep.Ints -/
def a11 : FAnn := ⟨33571891, [0, 1, 4, 5, 10, 14, 25], [(0, 35)], [(6, ⟨[0, 1, 2, 3, 4, 5, 6, 7, 8], [], []⟩)], true⟩
/-- slices.Contains[[]int,int] -/
def a12 : FAnn := ⟨19, [0, 1, 4], [], [], true⟩
/-- slices.SortStableFunc[[]int,int] -/
def a13 : FAnn := ⟨3, [0, 1], [], [], true⟩
/-- silt/victim.Two$1 -/
def a14 : FAnn := ⟨39, [0, 1, 2, 5], [], [(1, ⟨[0, 1, 2, 3, 4, 5, 6, 7, 8, 9], [], []⟩)], true⟩
/-- slices.Clone[[]int,int] -/
def a15 : FAnn := ⟨21, [0, 2, 4], [], [], true⟩
/-- (silt/victim.Worth).fraction -/
def a16 : FAnn := ⟨536887359, [0, 1, 2, 3, 4, 5, 14, 29], [], [(7, ⟨[0, 1, 2, 3, 4, 5, 6, 7, 8, 9, 10, 11, 12, 13, 14, 15], [], []⟩)], true⟩
/-- slices.Index[[]int,int] -/
def a17 : FAnn := ⟨66483, [0, 1, 4, 5, 7, 8, 9, 16], [(0, 387)], [], true⟩
/-- slices.stableCmpFunc[int] -/
def a18 : FAnn := ⟨18014433942971335, [0, 1, 2, 6, 7, 8, 9, 13, 30, 35, 54], [(0, 455), (2, 71), (4, 455)], [], true⟩
/-- slices.insertionSortCmpFunc[int] -/
def a19 : FAnn := ⟨17179886351, [0, 1, 2, 3, 8, 9, 14, 34], [(0, 271), (2, 783)], [(4, ⟨[0, 1, 2, 3, 4, 5, 6, 7, 8, 9, 10, 11, 12, 13, 14, 15, 16], [], []⟩), (6, ⟨[0, 1, 2, 3, 4, 5, 6, 7, 8, 9, 10, 11, 12, 13, 14, 15, 16, 17], [], []⟩)], true⟩
/-- slices.symMergeCmpFunc[int] -/
def a20 : FAnn := ⟨13164839976634628298295110780136696778032692856359452003713154079, [0, 1, 2, 3, 4, 10, 11, 12, 13, 14, 15, 16, 17, 18, 19, 20, 21, 22, 23, 24, 28, 33, 50, 58, 80, 85, 103, 110, 140, 151, 171, 185, 199, 213], [(0, 3091), (2, 9217), (4, 49173), (6, 147457), (8, 8126495)], [(5, ⟨[0, 1, 2, 3, 4, 5, 6, 7, 8, 9, 10], [], []⟩), (11, ⟨[0, 1, 2, 3, 4, 5, 6, 7, 8, 9, 10, 11, 12, 13, 14, 15, 16, 17], [], []⟩), (17, ⟨[0, 1, 2, 3, 4, 5, 6, 7, 8, 9, 10, 11], [], []⟩), (23, ⟨[0, 1, 2, 3, 4, 5, 6, 7, 8, 9, 10, 11, 12, 13, 14, 15, 16, 17], [], []⟩), (35, ⟨[0, 1, 2, 3, 4, 5, 6, 7, 8, 9, 10, 11, 12, 13], [], []⟩)], true⟩
/-- slices.rotateCmpFunc[int] -/
def a21 : FAnn := ⟨9440287, [0, 1, 2, 3, 4, 10, 11, 20, 23], [(0, 3093)], [], true⟩
/-- slices.swapRangeCmpFunc[int] -/
def a22 : FAnn := ⟨9231, [0, 1, 2, 3, 10, 13], [(0, 1039)], [(3, ⟨[0, 1, 2, 3, 4, 5, 6, 7, 8, 9, 10, 11, 12, 13, 14, 15, 16, 17, 18, 19, 20, 21, 22, 23], [], []⟩)], true⟩
/-- (runtime.boundsError).Error -/
def a23 : FAnn := ⟨0, [], [], [], false⟩
/-- (runtime.boundsError).RuntimeError -/
def a24 : FAnn := ⟨0, [], [], [], false⟩
/-- (runtime.errorString).Error -/
def a25 : FAnn := ⟨0, [], [], [], false⟩
/-- (runtime.errorString).RuntimeError -/
def a26 : FAnn := ⟨0, [], [], [], false⟩
/-- (runtime.plainError).Error -/
def a27 : FAnn := ⟨0, [], [], [], false⟩
/-- (runtime.plainError).RuntimeError -/
def a28 : FAnn := ⟨0, [], [], [], false⟩
/-- (runtime.errorAddressString).Error -/
def a29 : FAnn := ⟨0, [], [], [], false⟩
/-- (runtime.errorAddressString).RuntimeError -/
def a30 : FAnn := ⟨0, [], [], [], false⟩
/-- (*runtime.TypeAssertionError).Error -/
def a31 : FAnn := ⟨0, [], [], [], false⟩
/-- (*runtime.TypeAssertionError).RuntimeError -/
def a32 : FAnn := ⟨0, [], [], [], false⟩
/-- (*runtime.PanicNilError).Error -/
def a33 : FAnn := ⟨0, [], [], [], false⟩
/-- (*runtime.PanicNilError).RuntimeError -/
def a34 : FAnn := ⟨0, [], [], [], false⟩
/-- (*internal/abi.Type).Align -/
def a35 : FAnn := ⟨0, [], [], [], false⟩
/-- (internal/runtime/maps.unhashableTypeError).Error -/
def a36 : FAnn := ⟨0, [], [], [], false⟩
/-- (internal/runtime/maps.unhashableTypeError).RuntimeError -/
def a37 : FAnn := ⟨0, [], [], [], false⟩
/-- (internal/abi.Kind).String -/
def a38 : FAnn := ⟨0, [], [], [], false⟩
def anns : List FAnn := [a0, a1, a2, a3, a4, a5, a6, a7, a8, a9, a10, a11, a12, a13, a14, a15, a16, a17, a18, a19, a20, a21, a22, a23, a24, a25, a26, a27, a28, a29, a30, a31, a32, a33, a34, a35, a36, a37, a38]
def ann (f : FuncId) : FAnn := (anns[f]?).getD ⟨0, [], [], [], false⟩
def tab : List (Nat × Nat) := []
end Go.Proofs.Ytiiddampachhlaa
