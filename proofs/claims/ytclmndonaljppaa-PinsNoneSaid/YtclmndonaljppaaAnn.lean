import Derived.Test.YtclmndonaljppaaProg
import Derived.Test.YtclmndonaljppaaX29
import Derived.KernelRfl
namespace Go.Proofs.Ytclmndonaljppaa
open Go.X
/-- main.main -/
def a0 : FAnn := ⟨0, [], [], [], false⟩
/-- gosem.cut -/
def a1 : FAnn := ⟨0, [], [], [], false⟩
/-- gosem.cut.init -/
def a2 : FAnn := ⟨0, [], [], [], true⟩
/-- silt/siltlaw24.PinsPlay -/
def a3 : FAnn := ⟨158456400595616903453399328755, [0, 1, 4, 5, 6, 7, 8, 9, 10, 13, 34, 42, 50, 63, 76, 97], [(0, 674)], [(12, ⟨[0, 1, 2, 3, 4, 6, 7, 8, 9, 10, 5, 11, 12], [(8, [1]), (10, [1])], []⟩), (14, ⟨[0, 1, 2, 3, 4, 6, 7, 8, 9, 10, 5, 11, 12], [(8, [1]), (10, [1])], []⟩), (16, ⟨[0, 1, 2, 4, 5, 6, 3, 7, 8, 9, 10, 11, 12, 13, 15, 16, 17, 14, 18, 19, 20], [(6, [1]), (17, [4])], []⟩)], true⟩
/-- silt/siltlaw24.PinsOnce -/
def a4 : FAnn := ⟨44601490397062038564708385393110758539137021, [0, 2, 3, 4, 5, 6, 7, 8, 9, 10, 11, 26, 39, 58, 71, 73, 97, 99, 145], [(0, 233)], [(9, ⟨[0, 1, 2, 3, 4, 6, 7, 8, 9, 10, 5, 11, 12, 13], [(10, [1])], []⟩), (15, ⟨[0, 1, 2, 3, 4, 5, 6, 7, 8], [], []⟩), (21, ⟨[0, 1, 2, 3, 4, 5, 6, 7, 8], [], []⟩), (23, ⟨[0, 1, 4, 5, 6, 2, 3, 7, 8, 9, 10, 12, 13, 14, 15, 16, 17, 18, 19, 20, 21, 22, 23, 24, 25, 26, 27, 28, 29, 30, 11, 31, 32], [(6, [1]), (15, [2]), (19, [2]), (24, [2]), (29, [2])], []⟩)], true⟩
/-- silt/siltlaw24.PinsNone -/
def a5 : FAnn := ⟨15, [0, 1, 2, 3], [], [], true⟩
/-- silt/siltlaw24.PinsApart -/
def a6 : FAnn := ⟨3245186176108391712090136914173939, [0, 1, 4, 5, 6, 7, 8, 9, 10, 11, 12, 20, 43, 50, 56, 62, 71, 80, 84, 89, 109, 111], [(0, 675), (2, 6176)], [(13, ⟨[0, 1, 2, 4, 5, 6, 3, 7, 8], [(6, [1])], []⟩), (15, ⟨[0, 1, 2, 4, 5, 6, 3, 7, 8], [(6, [1])], []⟩)], true⟩
/-- silt/siltlaw24.wakes -/
def a7 : FAnn := ⟨131327, [0, 1, 2, 3, 4, 5, 6, 7, 17], [], [], true⟩
/-- silt/pins.New -/
def a8 : FAnn := ⟨525, [0, 2, 3, 9], [], [], true⟩
/-- silt/siltref24.New -/
def a9 : FAnn := ⟨525, [0, 2, 3, 9], [], [], true⟩
/-- (*silt/pins.Pins).Drop -/
def a10 : FAnn := ⟨67125703, [0, 1, 2, 6, 7, 8, 14, 26], [], [(7, ⟨[0, 1, 2, 3, 4, 5, 6, 7, 8, 9, 10, 11, 12, 13, 14, 15, 16, 17], [(3, [1])], []⟩)], true⟩
/-- (*silt/siltref24.Pins).Drop -/
def a11 : FAnn := ⟨4295, [0, 1, 2, 6, 7, 12], [], [(5, ⟨[0, 1, 2, 3, 4, 5, 6, 7, 8, 9, 10, 11, 12], [], []⟩)], true⟩
/-- (*silt/pins.Pins).Add -/
def a12 : FAnn := ⟨16583, [0, 1, 2, 6, 7, 14], [], [(4, ⟨[0, 1, 2, 3, 4, 5, 6, 7, 8, 9, 10, 11, 12, 13, 14, 15, 16], [(3, [1, 2]), (8, [1]), (11, [1])], []⟩)], true⟩
/-- (*silt/siltref24.Pins).Add -/
def a13 : FAnn := ⟨528583, [0, 1, 2, 6, 7, 12, 19], [], [(7, ⟨[0, 1, 2, 3, 4, 5, 6, 7, 8, 9, 10, 11, 12], [], []⟩)], true⟩
/-- silt/siltkeep.Ints -/
def a14 : FAnn := ⟨33571891, [0, 1, 4, 5, 10, 14, 25], [(0, 35)], [(6, ⟨[0, 1, 2, 3, 4, 5, 6, 7, 8], [], []⟩)], true⟩
/-- (*silt/pins.Pins).Of -/
def a15 : FAnn := ⟨275, [0, 1, 4, 8], [], [], true⟩
/-- (*silt/siltref24.Pins).Of -/
def a16 : FAnn := ⟨134234355, [0, 1, 4, 5, 6, 7, 14, 27], [(0, 99), (2, 227)], [], true⟩
/-- (*silt/pins.Pins).Count -/
def a17 : FAnn := ⟨568822451, [0, 1, 4, 5, 7, 9, 11, 15, 16, 17, 18, 21, 22, 23, 24, 29], [(0, 229410), (2, 14909474)], [], true⟩
/-- (*silt/siltref24.Pins).Count -/
def a18 : FAnn := ⟨2097267, [0, 1, 4, 5, 6, 21], [(0, 99)], [], true⟩
/-- silt/siltkeep.Mod -/
def a19 : FAnn := ⟨83, [0, 1, 4, 6], [], [], true⟩
/-- silt/pins.number -/
def a20 : FAnn := ⟨16885, [0, 2, 4, 5, 6, 7, 8, 14], [(0, 225)], [], true⟩
/-- (*silt/pins.Pins).session -/
def a21 : FAnn := ⟨563, [0, 1, 4, 5, 9], [], [], true⟩
/-- slices.Index[[]int,int] -/
def a22 : FAnn := ⟨66483, [0, 1, 4, 5, 7, 8, 9, 16], [(0, 387)], [], true⟩
/-- slices.Delete[[]int,int] -/
def a23 : FAnn := ⟨65735, [0, 1, 2, 6, 7, 16], [], [(5, ⟨[0, 1, 2, 3, 4, 5, 6, 7], [], []⟩)], true⟩
/-- (*silt/siltref24.Pins).has -/
def a24 : FAnn := ⟨19, [0, 1, 4], [], [], true⟩
/-- (*silt/pins.Pins).add -/
def a25 : FAnn := ⟨8425671, [0, 1, 2, 6, 7, 12, 15, 23], [], [], true⟩
/-- slices.Sort[[]int,int] -/
def a26 : FAnn := ⟨5, [0, 2], [], [], true⟩
/-- slices.Clone[[]int,int] -/
def a27 : FAnn := ⟨21, [0, 2, 4], [], [], true⟩
/-- errors.Is -/
def a28 : FAnn := ⟨2099, [0, 1, 4, 5, 11], [], [], true⟩
/-- silt/fault.New -/
def a29 : FAnn := ⟨83, [0, 1, 4, 6], [], [], true⟩
/-- silt/fault.Wrap -/
def a30 : FAnn := ⟨83, [0, 1, 4, 6], [], [], true⟩
/-- slices.pdqsortOrdered[int] -/
def a31 : FAnn := ⟨10384593871817177683247510831234831, [0, 1, 2, 3, 8, 9, 10, 11, 12, 13, 14, 15, 16, 17, 18, 23, 29, 35, 50, 68, 72, 87, 113], [(0, 783)], [(17, ⟨[0, 1, 2, 3, 4, 5, 6, 7, 8, 9, 10, 11, 12, 13, 14], [], []⟩)], true⟩
/-- math/bits.Len -/
def a32 : FAnn := ⟨5, [0, 2], [], [], true⟩
/-- internal/reflectlite.TypeOf -/
def a33 : FAnn := ⟨0, [], [], [], false⟩
/-- errors.is -/
def a34 : FAnn := ⟨4639143427053511, [0, 1, 2, 6, 7, 8, 9, 10, 12, 19, 30, 31, 33, 34, 38, 40, 41, 43, 44, 45, 46, 52], [(0, 7), (3, 61572651155462)], [], true⟩
/-- slices.insertionSortOrdered[int] -/
def a35 : FAnn := ⟨1073746119, [0, 1, 2, 6, 7, 12, 30], [(0, 71), (2, 199)], [(4, ⟨[0, 1, 2, 3, 4, 5, 6, 7, 8, 9, 10, 11, 12, 13, 14], [], []⟩), (6, ⟨[0, 1, 2, 3, 4, 5, 6, 7, 8, 9, 10, 11, 12, 13, 14, 15, 16, 17], [], []⟩)], true⟩
/-- slices.heapSortOrdered[int] -/
def a36 : FAnn := ⟨1074268103, [0, 1, 2, 6, 7, 8, 9, 10, 19, 30], [(0, 961), (2, 1217)], [(10, ⟨[0, 1, 2, 3, 4, 5, 6, 7, 8, 9, 10, 11, 12, 13, 14, 15, 16, 17, 18, 19], [], []⟩)], true⟩
/-- slices.breakPatternsOrdered[int] -/
def a37 : FAnn := ⟨8804682991559, [0, 1, 2, 6, 7, 8, 9, 10, 15, 33, 43], [(0, 963)], [(10, ⟨[0, 1, 2, 3, 4, 5, 6, 7, 8, 9, 10, 11, 12, 13, 14, 15, 16, 17, 18, 19], [], []⟩)], true⟩
/-- slices.choosePivotOrdered[int] -/
def a38 : FAnn := ⟨20829169751433159, [0, 1, 2, 6, 7, 8, 9, 10, 11, 12, 32, 34, 49, 51, 54], [], [], true⟩
/-- slices.reverseRangeOrdered[int] -/
def a39 : FAnn := ⟨8391, [0, 1, 2, 6, 7, 13], [(0, 193)], [(3, ⟨[0, 1, 2, 3, 4, 5, 6, 7, 8, 9, 10, 11, 12, 13, 14, 15], [], []⟩)], true⟩
/-- slices.partialInsertionSortOrdered[int] -/
def a40 : FAnn := ⟨83087207854311395603287443752634311, [0, 1, 2, 6, 7, 8, 9, 10, 14, 32, 37, 41, 61, 65, 78, 98, 103, 116], [(0, 391), (2, 391), (4, 903), (6, 1415)], [(5, ⟨[0, 1, 2, 3, 4, 5, 6, 7, 8, 9, 10, 11, 12, 13, 14, 15], [], []⟩), (11, ⟨[0, 1, 2, 3, 4, 5, 6, 7, 8, 9, 10, 11, 12, 13, 14, 15, 16, 17], [], []⟩), (16, ⟨[0, 1, 2, 3, 4, 5, 6, 7, 8, 9, 10], [], []⟩), (17, ⟨[0, 1, 2, 3, 4, 5, 6, 7, 8, 9, 10, 11, 12, 13, 14, 15, 16, 17], [], []⟩), (22, ⟨[0, 1, 2, 3, 4, 5, 6, 7, 8, 9, 10], [], []⟩), (23, ⟨[0, 1, 2, 3, 4, 5, 6, 7, 8, 9, 10, 11, 12, 13, 14, 15, 16, 17], [], []⟩)], true⟩
/-- cmp.Less[int] -/
def a41 : FAnn := ⟨19, [0, 1, 4], [], [], true⟩
/-- slices.partitionEqualOrdered[int] -/
def a42 : FAnn := ⟨19023213622105999119, [0, 1, 2, 3, 8, 9, 10, 43, 59, 64], [(0, 1539), (2, 1539), (4, 1539)], [(1, ⟨[0, 1, 2, 3, 4, 5, 6, 7, 8, 9, 10, 11, 12, 13, 14, 15], [], []⟩), (3, ⟨[0, 1, 2, 3, 4, 5, 6, 7, 8, 9, 10, 11, 12, 13, 14], [], []⟩), (5, ⟨[0, 1, 2, 3, 4, 5, 6, 7, 8, 9, 10, 11, 12, 13], [], []⟩), (8, ⟨[0, 1, 2, 3, 4, 5, 6, 7, 8, 9, 10, 11, 12, 13, 14, 15], [], []⟩)], true⟩
/-- slices.partitionOrdered[int] -/
def a43 : FAnn := ⟨22458641409078797123448399039441150152463, [0, 1, 2, 3, 8, 9, 10, 11, 43, 60, 65, 112, 129, 134], [(0, 3075), (2, 3075), (4, 3075), (6, 3075), (8, 3075)], [(1, ⟨[0, 1, 2, 3, 4, 5, 6, 7, 8, 9, 10, 11, 12, 13, 14, 15], [], []⟩), (3, ⟨[0, 1, 2, 3, 4, 5, 6, 7, 8, 9, 10, 11, 12, 13], [], []⟩), (5, ⟨[0, 1, 2, 3, 4, 5, 6, 7, 8, 9, 10, 11, 12, 13, 14], [], []⟩), (8, ⟨[0, 1, 2, 3, 4, 5, 6, 7, 8, 9, 10, 11, 12, 13, 14, 15], [], []⟩), (10, ⟨[0, 1, 2, 3, 4, 5, 6, 7, 8, 9, 10, 11, 12, 13, 14, 15], [], []⟩), (13, ⟨[0, 1, 2, 3, 4, 5, 6, 7, 8, 9, 10, 11, 12, 13], [], []⟩), (15, ⟨[0, 1, 2, 3, 4, 5, 6, 7, 8, 9, 10, 11, 12, 13, 14], [], []⟩), (18, ⟨[0, 1, 2, 3, 4, 5, 6, 7, 8, 9, 10, 11, 12, 13, 14, 15], [], []⟩), (21, ⟨[0, 1, 2, 3, 4, 5, 6, 7, 8, 9, 10, 11, 12, 13, 14, 15], [], []⟩)], true⟩
/-- math/bits.Len32 -/
def a44 : FAnn := ⟨277, [0, 2, 4, 8], [], [], true⟩
/-- math/bits.Len64 -/
def a45 : FAnn := ⟨16661, [0, 2, 4, 8, 14], [], [], true⟩
/-- slices.siftDownOrdered[int] -/
def a46 : FAnn := ⟨4503668346913551, [0, 1, 2, 3, 8, 9, 16, 36, 52], [(0, 269)], [(3, ⟨[0, 1, 2, 3, 4, 5, 6, 7, 8, 9, 10, 11, 12, 13, 14, 15, 16, 17, 18, 19], [], []⟩), (5, ⟨[0, 1, 2, 3, 4, 5, 6, 7, 8, 9, 10, 11, 12, 13], [], []⟩), (6, ⟨[0, 1, 2, 3, 4, 5, 6, 7, 8, 9, 10, 11, 12, 13, 14, 15, 16, 17, 18, 19, 20, 21, 22, 23], [], []⟩)], true⟩
/-- slices.nextPowerOfTwo -/
def a47 : FAnn := ⟨5, [0, 2], [], [], true⟩
/-- (*slices.xorshift).Next -/
def a48 : FAnn := ⟨5, [0, 2], [], [(1, ⟨[0, 1, 2, 3, 4, 5, 6, 7, 8, 9], [], []⟩), (2, ⟨[0, 1, 2, 3, 4, 5, 6, 7, 8, 9], [], []⟩), (3, ⟨[0, 1, 2, 3, 4, 5, 6, 7, 8, 9], [], []⟩)], true⟩
/-- slices.medianAdjacentOrdered[int] -/
def a49 : FAnn := ⟨71, [0, 1, 2, 6], [], [], true⟩
/-- slices.medianOrdered[int] -/
def a50 : FAnn := ⟨1055, [0, 1, 2, 3, 4, 10], [], [], true⟩
/-- cmp.isNaN[int] -/
def a51 : FAnn := ⟨5, [0, 2], [], [], true⟩
/-- slices.order2Ordered[int] -/
def a52 : FAnn := ⟨262927, [0, 1, 2, 3, 8, 9, 18], [], [(1, ⟨[0, 1, 2, 3, 4, 5, 6, 7, 8], [], []⟩)], true⟩
/-- (runtime.boundsError).Error -/
def a53 : FAnn := ⟨0, [], [], [], false⟩
/-- (runtime.boundsError).RuntimeError -/
def a54 : FAnn := ⟨0, [], [], [], false⟩
/-- (runtime.errorString).Error -/
def a55 : FAnn := ⟨0, [], [], [], false⟩
/-- (runtime.errorString).RuntimeError -/
def a56 : FAnn := ⟨0, [], [], [], false⟩
/-- (runtime.plainError).Error -/
def a57 : FAnn := ⟨0, [], [], [], false⟩
/-- (runtime.plainError).RuntimeError -/
def a58 : FAnn := ⟨0, [], [], [], false⟩
/-- (runtime.errorAddressString).Error -/
def a59 : FAnn := ⟨0, [], [], [], false⟩
/-- (runtime.errorAddressString).RuntimeError -/
def a60 : FAnn := ⟨0, [], [], [], false⟩
/-- (*runtime.TypeAssertionError).Error -/
def a61 : FAnn := ⟨0, [], [], [], false⟩
/-- (*runtime.TypeAssertionError).RuntimeError -/
def a62 : FAnn := ⟨0, [], [], [], false⟩
/-- (*runtime.PanicNilError).Error -/
def a63 : FAnn := ⟨0, [], [], [], false⟩
/-- (*runtime.PanicNilError).RuntimeError -/
def a64 : FAnn := ⟨0, [], [], [], false⟩
/-- (*internal/abi.Type).Align -/
def a65 : FAnn := ⟨0, [], [], [], false⟩
/-- (internal/runtime/maps.unhashableTypeError).Error -/
def a66 : FAnn := ⟨0, [], [], [], false⟩
/-- (internal/runtime/maps.unhashableTypeError).RuntimeError -/
def a67 : FAnn := ⟨0, [], [], [], false⟩
/-- (silt/api.Errno).Error -/
def a68 : FAnn := ⟨0, [], [], [], false⟩
/-- (*silt/fault.fault).Error -/
def a69 : FAnn := ⟨0, [], [], [], false⟩
/-- (*silt/fault.fault).Unwrap -/
def a70 : FAnn := ⟨5, [0, 2], [], [], true⟩
/-- (*internal/abi.Type).Kind -/
def a71 : FAnn := ⟨0, [], [], [], false⟩
/-- (*internal/abi.Type).Size -/
def a72 : FAnn := ⟨0, [], [], [], false⟩
/-- (internal/reflectlite.rtype).AssignableTo -/
def a73 : FAnn := ⟨0, [], [], [], false⟩
/-- (internal/reflectlite.rtype).Comparable -/
def a74 : FAnn := ⟨0, [], [], [], false⟩
/-- (internal/reflectlite.rtype).Elem -/
def a75 : FAnn := ⟨0, [], [], [], false⟩
/-- (internal/reflectlite.rtype).Implements -/
def a76 : FAnn := ⟨0, [], [], [], false⟩
/-- (internal/reflectlite.rtype).Name -/
def a77 : FAnn := ⟨0, [], [], [], false⟩
/-- (internal/reflectlite.rtype).PkgPath -/
def a78 : FAnn := ⟨0, [], [], [], false⟩
/-- (internal/reflectlite.rtype).String -/
def a79 : FAnn := ⟨0, [], [], [], false⟩
/-- (internal/reflectlite.rtype).common -/
def a80 : FAnn := ⟨0, [], [], [], false⟩
/-- (internal/reflectlite.rtype).uncommon -/
def a81 : FAnn := ⟨0, [], [], [], false⟩
/-- (*internal/reflectlite.ValueError).Error -/
def a82 : FAnn := ⟨0, [], [], [], false⟩
/-- (internal/abi.Kind).String -/
def a83 : FAnn := ⟨0, [], [], [], false⟩
/-- (*internal/abi.UncommonType).ExportedMethods -/
def a84 : FAnn := ⟨0, [], [], [], false⟩
def anns : List FAnn := [a0, a1, a2, a3, a4, a5, a6, a7, a8, a9, a10, a11, a12, a13, a14, a15, a16, a17, a18, a19, a20, a21, a22, a23, a24, a25, a26, a27, a28, a29, a30, a31, a32, a33, a34, a35, a36, a37, a38, a39, a40, a41, a42, a43, a44, a45, a46, a47, a48, a49, a50, a51, a52, a53, a54, a55, a56, a57, a58, a59, a60, a61, a62, a63, a64, a65, a66, a67, a68, a69, a70, a71, a72, a73, a74, a75, a76, a77, a78, a79, a80, a81, a82, a83, a84]
def ann (f : FuncId) : FAnn := (anns[f]?).getD ⟨0, [], [], [], false⟩
def tab : List (Nat × Nat) := [(33, 1), (71, 7), (73, 5), (74, 3), (75, 2), (76, 4)]
end Go.Proofs.Ytclmndonaljppaa
