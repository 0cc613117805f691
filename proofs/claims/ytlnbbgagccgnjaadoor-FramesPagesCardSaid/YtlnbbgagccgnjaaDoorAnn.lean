/-
  The notes on the functions' texts: which variables are kept, in which order a region that draws its order may be run.
-/
import Derived.Test.YtlnbbgagccgnjaaDoorProg
import Derived.Test.YtlnbbgagccgnjaaDoorXg
import Derived.KernelRfl
namespace Go.Proofs.YtlnbbgagccgnjaaDoor
open Go.X
/-- main.main -/
def a0 : FAnn := ⟨0, [], [], [], false⟩
/-- gosem.cut -/
def a1 : FAnn := ⟨0, [], [], [], false⟩
/-- gosem.cut.init -/
def a2 : FAnn := ⟨0, [], [], [], true⟩
/-- silt/siltlaw17.FramesKeep -/
def a3 : FAnn := ⟨224307598823662565055426139509326932702137650716234773064550534338314237, [0, 2, 3, 4, 5, 6, 7, 8, 9, 10, 11, 12, 13, 14, 15, 16, 17, 18, 19, 20, 21, 22, 42, 60, 74, 75, 92, 112, 113, 114, 129, 150, 153, 159, 170, 201, 205, 219, 231, 237], [(0, 489), (3, 66025), (5, 7340521)], [(18, ⟨[0, 1, 2, 3, 4, 5, 6, 7, 8, 9, 10, 11, 12], [], []⟩), (23, ⟨[0, 1, 2, 3, 4, 6, 7, 9, 5, 8, 10, 11, 12, 13, 14], [(7, [1])], []⟩), (29, ⟨[0, 1, 2, 3, 4, 5], [], []⟩), (37, ⟨[0, 1, 2, 3, 4, 5, 6, 7, 8, 9, 10, 11, 12, 13, 14, 15, 16, 17, 18, 19, 20, 21], [], []⟩), (44, ⟨[0, 1, 2, 3, 4, 5, 6, 7, 8, 9, 10, 11], [], []⟩)], true⟩
/-- silt/siltlaw17.FramesNone -/
def a4 : FAnn := ⟨4431, [0, 1, 2, 3, 6, 8, 12], [], [], true⟩
/-- silt/siltlaw17.FramesPages -/
def a5 : FAnn := ⟨19037039884068257394647, [0, 1, 2, 4, 6, 7, 8, 9, 10, 11, 13, 14, 15, 16, 67, 74], [], [(11, ⟨[0, 1, 2, 3, 4, 5, 6, 7, 8, 9, 10, 11, 12, 13, 14, 15, 16, 17, 18, 19, 20, 21, 22, 23, 24, 25, 26, 27, 28, 29, 30, 31, 32, 33, 34, 35, 36, 37, 38, 39, 40, 41, 42, 43, 44], [(13, [1])], []⟩)], true⟩
/-- silt/siltlaw17.FramesPlay -/
def a6 : FAnn := ⟨1018517988197001610068213106429551159951003025350914555418054072100762440200062591754567667, [0, 1, 4, 5, 6, 7, 8, 9, 10, 11, 12, 13, 14, 15, 16, 17, 18, 19, 20, 21, 22, 25, 55, 63, 71, 72, 92, 114, 134, 144, 154, 168, 197, 199, 256, 264, 299], [(0, 674), (3, 66210)], [(15, ⟨[0, 1, 2, 3, 4, 5, 6, 9, 10, 11, 12, 13, 14, 15, 7, 8, 16, 17, 18, 19], [(2, [1]), (4, [1]), (11, [1, 2, 3]), (13, [1, 2, 3]), (15, [1, 2])], []⟩), (18, ⟨[0, 1, 2, 3, 4, 5, 7, 8, 9, 10, 11, 12, 6, 13, 14, 15], [(9, [1]), (11, [1]), (12, [1])], []⟩), (20, ⟨[0, 1, 2, 3, 4, 6, 7, 10, 11, 12, 13, 14, 15, 16, 5, 8, 9, 17, 18, 19], [(2, [1, 2]), (4, [1, 2]), (7, [1]), (12, [1, 2, 3]), (14, [1, 2, 3]), (16, [1, 2, 3])], []⟩), (25, ⟨[0, 1, 2, 4, 5, 6, 3, 7, 8, 9], [(6, [1])], []⟩), (27, ⟨[0, 2, 3, 5, 6, 7, 8, 9, 10, 1, 4, 11, 12, 13], [(3, [1]), (8, [1, 2]), (10, [1, 2])], []⟩), (29, ⟨[0, 2, 3, 5, 6, 7, 8, 9, 10, 1, 4, 11, 12, 13], [(3, [1]), (8, [1, 2]), (10, [1, 2])], []⟩), (37, ⟨[0, 1, 2, 3, 4, 5, 6, 7, 8, 9, 10, 11, 12, 13, 14, 15, 16, 17, 18, 19, 20, 21, 22, 23, 24, 25, 26, 27, 28, 29, 30, 31, 32, 33, 34, 35, 36, 37, 38, 39, 40, 41, 42, 43, 44], [], []⟩), (43, ⟨[0, 1, 2, 3, 4, 5, 6, 7, 8, 9, 10, 11, 12, 13, 14, 15, 16, 17, 18, 19, 20, 21, 22, 23, 24, 25, 26, 27], [], []⟩)], true⟩
/-- silt/frames.New -/
def a7 : FAnn := ⟨4157, [0, 2, 3, 4, 5, 12], [], [(4, ⟨[0, 1, 3, 2, 4, 5, 6, 7, 8], [], [4]⟩)], true⟩
/-- (*silt/frames.Frames).Clock -/
def a8 : FAnn := ⟨21, [0, 2, 4], [], [], true⟩
/-- silt/siltlaw17.fair -/
def a9 : FAnn := ⟨65677, [0, 2, 3, 7, 16], [(0, 9)], [], true⟩
/-- silt/siltlaw17.wakes -/
def a10 : FAnn := ⟨562949953423359, [0, 1, 2, 3, 4, 5, 6, 7, 8, 9, 10, 49], [], [(10, ⟨[0, 1, 2, 3, 4, 5, 6, 7, 8, 9, 10, 11, 12, 13, 14, 15, 16, 17, 18, 19, 20, 21, 22, 23, 24, 25, 26, 27, 28, 29, 30, 31, 32, 33, 34, 35, 36, 37, 38, 39, 40, 41, 42, 43, 44, 45, 46, 47, 48, 49, 50, 51], [(2, [1])], []⟩)], true⟩
/-- silt/siltkeep.Mod -/
def a11 : FAnn := ⟨83, [0, 1, 4, 6], [], [], true⟩
/-- (*silt/clock.Clock).Key -/
def a12 : FAnn := ⟨262259, [0, 1, 4, 5, 6, 18], [], [], true⟩
/-- (*silt/frames.Frames).Hold -/
def a13 : FAnn := ⟨4194703, [0, 1, 2, 3, 7, 8, 22], [], [(3, ⟨[0, 1, 2, 3, 4, 5, 6, 7, 8, 9], [], []⟩)], true⟩
/-- silt/siltkeep.Leaf -/
def a14 : FAnn := ⟨93, [0, 2, 3, 4, 6], [(0, 29)], [], true⟩
/-- (*silt/frames.Frames).Write -/
def a15 : FAnn := ⟨274882125583, [0, 1, 2, 3, 8, 9, 10, 11, 12, 14, 22, 38], [], [(9, ⟨[0, 1, 2, 3, 4, 5, 6, 7, 8], [], []⟩)], true⟩
/-- (*silt/frames.Frames).Clean -/
def a16 : FAnn := ⟨4147, [0, 1, 4, 5, 12], [], [(2, ⟨[0, 1, 2, 3, 4, 5, 6, 7, 8, 9, 10, 11, 12, 13, 14, 15], [], []⟩)], true⟩
/-- (*silt/frames.Frames).Page -/
def a17 : FAnn := ⟨33011, [0, 1, 4, 5, 6, 7, 15], [], [(4, ⟨[0, 1, 2, 3, 4, 5, 6, 7, 8, 9, 10, 11, 12, 13, 14, 15, 16, 17, 18], [(11, [1]), (15, [1])], []⟩)], true⟩
/-- (*silt/frames.Frames).Dirty -/
def a18 : FAnn := ⟨2147541373, [0, 2, 3, 4, 5, 6, 8, 13, 14, 15, 31], [(0, 24585)], [], true⟩
/-- (*silt/frames.Frames).Map -/
def a19 : FAnn := ⟨8397043, [0, 1, 4, 5, 6, 7, 13, 23], [], [], true⟩
/-- (*silt/frames.Frames).HoldMap -/
def a20 : FAnn := ⟨67109263, [0, 1, 2, 3, 7, 8, 26], [], [(3, ⟨[0, 1, 2, 3, 4, 5, 6, 7], [], []⟩)], true⟩
/-- (*silt/frames.Frames).Forget -/
def a21 : FAnn := ⟨371, [0, 1, 4, 5, 6, 8], [], [], true⟩
/-- (*silt/clock.Clock).Pin -/
def a22 : FAnn := ⟨131123, [0, 1, 4, 5, 17], [], [], true⟩
/-- silt/siltref17.New -/
def a23 : FAnn := ⟨4157, [0, 2, 3, 4, 5, 12], [], [], true⟩
/-- (*silt/siltref17.Frames).Hold -/
def a24 : FAnn := ⟨399, [0, 1, 2, 3, 7, 8], [], [], true⟩
/-- (*silt/siltref17.Frames).HoldMap -/
def a25 : FAnn := ⟨399, [0, 1, 2, 3, 7, 8], [], [], true⟩
/-- (*silt/siltref17.Frames).Write -/
def a26 : FAnn := ⟨536905487, [0, 1, 2, 3, 8, 9, 10, 15, 29], [], [(7, ⟨[0, 1, 2, 3, 4, 5, 6, 7, 8, 9], [], []⟩)], true⟩
/-- (*silt/siltref17.Frames).Clean -/
def a27 : FAnn := ⟨531, [0, 1, 4, 9], [], [(2, ⟨[0, 1, 2, 3, 4, 5, 6, 7, 8, 9, 10, 11, 12, 13, 14, 15], [], []⟩)], true⟩
/-- (*silt/siltref17.Frames).Forget -/
def a28 : FAnn := ⟨51, [0, 1, 4, 5], [], [], true⟩
/-- (*silt/siltref16.Clock).Pin -/
def a29 : FAnn := ⟨524307, [0, 1, 4, 19], [], [], true⟩
/-- (*silt/clock.Clock).Unpin -/
def a30 : FAnn := ⟨131123, [0, 1, 4, 5, 17], [], [], true⟩
/-- (*silt/siltref16.Clock).Unpin -/
def a31 : FAnn := ⟨524307, [0, 1, 4, 19], [], [], true⟩
/-- silt/siltkeep.Ints -/
def a32 : FAnn := ⟨33571891, [0, 1, 4, 5, 10, 14, 25], [(0, 35)], [(6, ⟨[0, 1, 2, 3, 4, 5, 6, 7, 8], [], []⟩)], true⟩
/-- (*silt/siltref17.Frames).Dirty -/
def a33 : FAnn := ⟨524477, [0, 2, 3, 4, 5, 7, 19], [(0, 25)], [], true⟩
/-- (*silt/siltref17.Frames).Of -/
def a34 : FAnn := ⟨1043, [0, 1, 4, 10], [], [], true⟩
/-- (*silt/siltref16.Clock).Find -/
def a35 : FAnn := ⟨268501043, [0, 1, 4, 5, 16, 28], [(0, 35)], [], true⟩
/-- silt/clock.New -/
def a36 : FAnn := ⟨7342141, [0, 2, 3, 4, 5, 11, 20, 21, 22], [(0, 3145744)], [], true⟩
/-- (*silt/clock.Clock).at -/
def a37 : FAnn := ⟨524307, [0, 1, 4, 19], [], [], true⟩
/-- silt/frames.kind -/
def a38 : FAnn := ⟨589, [0, 2, 3, 6, 9], [], [], true⟩
/-- (*silt/frames.Frames).takes -/
def a39 : FAnn := ⟨71, [0, 1, 2, 6], [], [], true⟩
/-- (*silt/frames.Frames).find -/
def a40 : FAnn := ⟨32967, [0, 1, 2, 6, 7, 15], [], [], true⟩
/-- silt/delta.Apply -/
def a41 : FAnn := ⟨8655, [0, 1, 2, 3, 6, 7, 8, 13], [], [(3, ⟨[0, 1, 2, 3], [(1, [1])], []⟩)], true⟩
/-- (*silt/clock.Clock).Touch -/
def a42 : FAnn := ⟨65555, [0, 1, 4, 16], [], [], true⟩
/-- (*silt/frames.Frames).dirty -/
def a43 : FAnn := ⟨115, [0, 1, 4, 5, 6], [], [(2, ⟨[0, 1, 2, 3, 4, 5, 6, 7, 8, 9, 10, 11, 12, 13, 14, 15, 16, 17, 18, 19, 20, 21, 22, 23, 24, 25], [], []⟩)], true⟩
/-- slices.Sort[[]int,int] -/
def a44 : FAnn := ⟨5, [0, 2], [], [], true⟩
/-- (*silt/clock.Clock).Find -/
def a45 : FAnn := ⟨136192243, [0, 1, 4, 5, 6, 7, 13, 17, 18, 19, 20, 27], [(0, 917506)], [], true⟩
/-- (*silt/clock.Clock).Drop -/
def a46 : FAnn := ⟨131123, [0, 1, 4, 5, 17], [], [], true⟩
/-- silt/siltref16.New -/
def a47 : FAnn := ⟨67645, [0, 2, 3, 4, 5, 11, 16], [(0, 49)], [], true⟩
/-- (*silt/siltref17.Frames).hold -/
def a48 : FAnn := ⟨1073742223, [0, 1, 2, 3, 7, 8, 30], [], [(3, ⟨[0, 1, 2, 3, 4, 5, 6, 7], [], []⟩)], true⟩
/-- silt/siltref07.Apply -/
def a49 : FAnn := ⟨16777295, [0, 1, 2, 3, 6, 24], [], [], true⟩
/-- (*silt/siltref16.Clock).Touch -/
def a50 : FAnn := ⟨131075, [0, 1, 17], [], [], true⟩
/-- (*silt/siltref16.Clock).Drop -/
def a51 : FAnn := ⟨524307, [0, 1, 4, 19], [], [], true⟩
/-- (*silt/siltref16.Clock).Has -/
def a52 : FAnn := ⟨19, [0, 1, 4], [], [], true⟩
/-- (*silt/siltref17.Frames).dirty -/
def a53 : FAnn := ⟨19, [0, 1, 4], [], [(1, ⟨[0, 1, 2, 3, 4, 5, 6, 7, 8, 9, 10, 11, 12, 13, 14, 15, 16, 17, 18, 19, 20, 21, 22, 23, 24, 25, 26, 27, 28, 29, 30, 31, 32, 33, 34, 35, 36, 37, 38, 39, 40, 41, 42, 43, 44, 45], [], []⟩)], true⟩
/-- (*silt/clock.Clock).Put -/
def a54 : FAnn := ⟨4333241287, [0, 1, 2, 6, 7, 8, 9, 19, 22, 25, 32], [], [], true⟩
/-- errors.As -/
def a55 : FAnn := ⟨34368129779, [0, 1, 4, 5, 6, 7, 9, 11, 23, 35], [], [], true⟩
/-- silt/delta.fits -/
def a56 : FAnn := ⟨8388627, [0, 1, 4, 23], [], [], true⟩
/-- slices.pdqsortOrdered[int] -/
def a57 : FAnn := ⟨10384593871817177683247510831234831, [0, 1, 2, 3, 8, 9, 10, 11, 12, 13, 14, 15, 16, 17, 18, 23, 29, 35, 50, 68, 72, 87, 113], [(0, 783)], [(17, ⟨[0, 1, 2, 3, 4, 5, 6, 7, 8, 9, 10, 11, 12, 13, 14], [], []⟩)], true⟩
/-- math/bits.Len -/
def a58 : FAnn := ⟨5, [0, 2], [], [], true⟩
/-- (*silt/siltref16.Clock).Put -/
def a59 : FAnn := ⟨68786585799, [0, 1, 2, 6, 7, 26, 36], [], [], true⟩
/-- internal/reflectlite.ValueOf -/
def a60 : FAnn := ⟨0, [], [], [], false⟩
/-- (internal/reflectlite.Value).Type -/
def a61 : FAnn := ⟨0, [], [], [], false⟩
/-- (internal/reflectlite.Value).IsNil -/
def a62 : FAnn := ⟨0, [], [], [], false⟩
/-- errors.as -/
def a63 : FAnn := ⟨1193287703199244111, [0, 1, 2, 3, 6, 8, 9, 10, 11, 12, 14, 19, 35, 36, 38, 39, 43, 45, 46, 48, 49, 50, 51, 55, 60], [(0, 75), (3, 1970324836974666)], [], true⟩
/-- silt/fault.Wrap -/
def a64 : FAnn := ⟨83, [0, 1, 4, 6], [], [], true⟩
/-- silt/fault.New -/
def a65 : FAnn := ⟨83, [0, 1, 4, 6], [], [], true⟩
/-- slices.insertionSortOrdered[int] -/
def a66 : FAnn := ⟨1073746119, [0, 1, 2, 6, 7, 12, 30], [(0, 71), (2, 199)], [(4, ⟨[0, 1, 2, 3, 4, 5, 6, 7, 8, 9, 10, 11, 12, 13, 14], [], []⟩), (6, ⟨[0, 1, 2, 3, 4, 5, 6, 7, 8, 9, 10, 11, 12, 13, 14, 15, 16, 17], [], []⟩)], true⟩
/-- slices.heapSortOrdered[int] -/
def a67 : FAnn := ⟨1074268103, [0, 1, 2, 6, 7, 8, 9, 10, 19, 30], [(0, 961), (2, 1217)], [(10, ⟨[0, 1, 2, 3, 4, 5, 6, 7, 8, 9, 10, 11, 12, 13, 14, 15, 16, 17, 18, 19], [], []⟩)], true⟩
/-- slices.breakPatternsOrdered[int] -/
def a68 : FAnn := ⟨8804682991559, [0, 1, 2, 6, 7, 8, 9, 10, 15, 33, 43], [(0, 963)], [(10, ⟨[0, 1, 2, 3, 4, 5, 6, 7, 8, 9, 10, 11, 12, 13, 14, 15, 16, 17, 18, 19], [], []⟩)], true⟩
/-- slices.choosePivotOrdered[int] -/
def a69 : FAnn := ⟨20829169751433159, [0, 1, 2, 6, 7, 8, 9, 10, 11, 12, 32, 34, 49, 51, 54], [], [], true⟩
/-- slices.reverseRangeOrdered[int] -/
def a70 : FAnn := ⟨8391, [0, 1, 2, 6, 7, 13], [(0, 193)], [(3, ⟨[0, 1, 2, 3, 4, 5, 6, 7, 8, 9, 10, 11, 12, 13, 14, 15], [], []⟩)], true⟩
/-- slices.partialInsertionSortOrdered[int] -/
def a71 : FAnn := ⟨83087207854311395603287443752634311, [0, 1, 2, 6, 7, 8, 9, 10, 14, 32, 37, 41, 61, 65, 78, 98, 103, 116], [(0, 391), (2, 391), (4, 903), (6, 1415)], [(5, ⟨[0, 1, 2, 3, 4, 5, 6, 7, 8, 9, 10, 11, 12, 13, 14, 15], [], []⟩), (11, ⟨[0, 1, 2, 3, 4, 5, 6, 7, 8, 9, 10, 11, 12, 13, 14, 15, 16, 17], [], []⟩), (16, ⟨[0, 1, 2, 3, 4, 5, 6, 7, 8, 9, 10], [], []⟩), (17, ⟨[0, 1, 2, 3, 4, 5, 6, 7, 8, 9, 10, 11, 12, 13, 14, 15, 16, 17], [], []⟩), (22, ⟨[0, 1, 2, 3, 4, 5, 6, 7, 8, 9, 10], [], []⟩), (23, ⟨[0, 1, 2, 3, 4, 5, 6, 7, 8, 9, 10, 11, 12, 13, 14, 15, 16, 17], [], []⟩)], true⟩
/-- cmp.Less[int] -/
def a72 : FAnn := ⟨19, [0, 1, 4], [], [], true⟩
/-- slices.partitionEqualOrdered[int] -/
def a73 : FAnn := ⟨19023213622105999119, [0, 1, 2, 3, 8, 9, 10, 43, 59, 64], [(0, 1539), (2, 1539), (4, 1539)], [(1, ⟨[0, 1, 2, 3, 4, 5, 6, 7, 8, 9, 10, 11, 12, 13, 14, 15], [], []⟩), (3, ⟨[0, 1, 2, 3, 4, 5, 6, 7, 8, 9, 10, 11, 12, 13, 14], [], []⟩), (5, ⟨[0, 1, 2, 3, 4, 5, 6, 7, 8, 9, 10, 11, 12, 13], [], []⟩), (8, ⟨[0, 1, 2, 3, 4, 5, 6, 7, 8, 9, 10, 11, 12, 13, 14, 15], [], []⟩)], true⟩
/-- slices.partitionOrdered[int] -/
def a74 : FAnn := ⟨22458641409078797123448399039441150152463, [0, 1, 2, 3, 8, 9, 10, 11, 43, 60, 65, 112, 129, 134], [(0, 3075), (2, 3075), (4, 3075), (6, 3075), (8, 3075)], [(1, ⟨[0, 1, 2, 3, 4, 5, 6, 7, 8, 9, 10, 11, 12, 13, 14, 15], [], []⟩), (3, ⟨[0, 1, 2, 3, 4, 5, 6, 7, 8, 9, 10, 11, 12, 13], [], []⟩), (5, ⟨[0, 1, 2, 3, 4, 5, 6, 7, 8, 9, 10, 11, 12, 13, 14], [], []⟩), (8, ⟨[0, 1, 2, 3, 4, 5, 6, 7, 8, 9, 10, 11, 12, 13, 14, 15], [], []⟩), (10, ⟨[0, 1, 2, 3, 4, 5, 6, 7, 8, 9, 10, 11, 12, 13, 14, 15], [], []⟩), (13, ⟨[0, 1, 2, 3, 4, 5, 6, 7, 8, 9, 10, 11, 12, 13], [], []⟩), (15, ⟨[0, 1, 2, 3, 4, 5, 6, 7, 8, 9, 10, 11, 12, 13, 14], [], []⟩), (18, ⟨[0, 1, 2, 3, 4, 5, 6, 7, 8, 9, 10, 11, 12, 13, 14, 15], [], []⟩), (21, ⟨[0, 1, 2, 3, 4, 5, 6, 7, 8, 9, 10, 11, 12, 13, 14, 15], [], []⟩)], true⟩
/-- math/bits.Len32 -/
def a75 : FAnn := ⟨277, [0, 2, 4, 8], [], [], true⟩
/-- math/bits.Len64 -/
def a76 : FAnn := ⟨16661, [0, 2, 4, 8, 14], [], [], true⟩
/-- internal/reflectlite.TypeOf -/
def a77 : FAnn := ⟨0, [], [], [], false⟩
/-- (internal/reflectlite.Value).Elem -/
def a78 : FAnn := ⟨0, [], [], [], false⟩
/-- (internal/reflectlite.Value).Set -/
def a79 : FAnn := ⟨0, [], [], [], false⟩
/-- slices.siftDownOrdered[int] -/
def a80 : FAnn := ⟨4503668346913551, [0, 1, 2, 3, 8, 9, 16, 36, 52], [(0, 269)], [(3, ⟨[0, 1, 2, 3, 4, 5, 6, 7, 8, 9, 10, 11, 12, 13, 14, 15, 16, 17, 18, 19], [], []⟩), (5, ⟨[0, 1, 2, 3, 4, 5, 6, 7, 8, 9, 10, 11, 12, 13], [], []⟩), (6, ⟨[0, 1, 2, 3, 4, 5, 6, 7, 8, 9, 10, 11, 12, 13, 14, 15, 16, 17, 18, 19, 20, 21, 22, 23], [], []⟩)], true⟩
/-- slices.nextPowerOfTwo -/
def a81 : FAnn := ⟨5, [0, 2], [], [], true⟩
/-- (*slices.xorshift).Next -/
def a82 : FAnn := ⟨5, [0, 2], [], [(1, ⟨[0, 1, 2, 3, 4, 5, 6, 7, 8, 9], [], []⟩), (2, ⟨[0, 1, 2, 3, 4, 5, 6, 7, 8, 9], [], []⟩), (3, ⟨[0, 1, 2, 3, 4, 5, 6, 7, 8, 9], [], []⟩)], true⟩
/-- slices.medianAdjacentOrdered[int] -/
def a83 : FAnn := ⟨71, [0, 1, 2, 6], [], [], true⟩
/-- slices.medianOrdered[int] -/
def a84 : FAnn := ⟨1055, [0, 1, 2, 3, 4, 10], [], [], true⟩
/-- cmp.isNaN[int] -/
def a85 : FAnn := ⟨5, [0, 2], [], [], true⟩
/-- slices.order2Ordered[int] -/
def a86 : FAnn := ⟨262927, [0, 1, 2, 3, 8, 9, 18], [], [(1, ⟨[0, 1, 2, 3, 4, 5, 6, 7, 8], [], []⟩)], true⟩
/-- (runtime.boundsError).Error -/
def a87 : FAnn := ⟨0, [], [], [], false⟩
/-- (runtime.boundsError).RuntimeError -/
def a88 : FAnn := ⟨0, [], [], [], false⟩
/-- (runtime.errorString).Error -/
def a89 : FAnn := ⟨0, [], [], [], false⟩
/-- (runtime.errorString).RuntimeError -/
def a90 : FAnn := ⟨0, [], [], [], false⟩
/-- (runtime.plainError).Error -/
def a91 : FAnn := ⟨0, [], [], [], false⟩
/-- (runtime.plainError).RuntimeError -/
def a92 : FAnn := ⟨0, [], [], [], false⟩
/-- (runtime.errorAddressString).Error -/
def a93 : FAnn := ⟨0, [], [], [], false⟩
/-- (runtime.errorAddressString).RuntimeError -/
def a94 : FAnn := ⟨0, [], [], [], false⟩
/-- (*runtime.TypeAssertionError).Error -/
def a95 : FAnn := ⟨0, [], [], [], false⟩
/-- (*runtime.TypeAssertionError).RuntimeError -/
def a96 : FAnn := ⟨0, [], [], [], false⟩
/-- (*runtime.PanicNilError).Error -/
def a97 : FAnn := ⟨0, [], [], [], false⟩
/-- (*runtime.PanicNilError).RuntimeError -/
def a98 : FAnn := ⟨0, [], [], [], false⟩
/-- (*internal/abi.Type).Align -/
def a99 : FAnn := ⟨0, [], [], [], false⟩
/-- (*internal/abi.Type).Elem -/
def a100 : FAnn := ⟨0, [], [], [], false⟩
/-- (*internal/abi.Type).Kind -/
def a101 : FAnn := ⟨0, [], [], [], false⟩
/-- (internal/runtime/maps.unhashableTypeError).Error -/
def a102 : FAnn := ⟨0, [], [], [], false⟩
/-- (internal/runtime/maps.unhashableTypeError).RuntimeError -/
def a103 : FAnn := ⟨0, [], [], [], false⟩
/-- (silt/api.Errno).Error -/
def a104 : FAnn := ⟨0, [], [], [], false⟩
/-- (*silt/clock.Clock).Pinned -/
def a105 : FAnn := ⟨0, [], [], [], false⟩
/-- (*silt/siltref16.Clock).Pinned -/
def a106 : FAnn := ⟨0, [], [], [], false⟩
/-- (internal/reflectlite.flag).mustBeAssignable -/
def a107 : FAnn := ⟨0, [], [], [], false⟩
/-- (internal/reflectlite.Value).Kind -/
def a108 : FAnn := ⟨0, [], [], [], false⟩
/-- (internal/abi.Kind).String -/
def a109 : FAnn := ⟨0, [], [], [], false⟩
/-- (*internal/abi.Type).Size -/
def a110 : FAnn := ⟨0, [], [], [], false⟩
/-- (internal/reflectlite.rtype).AssignableTo -/
def a111 : FAnn := ⟨0, [], [], [], false⟩
/-- (internal/reflectlite.rtype).Comparable -/
def a112 : FAnn := ⟨0, [], [], [], false⟩
/-- (internal/reflectlite.rtype).Elem -/
def a113 : FAnn := ⟨0, [], [], [], false⟩
/-- (internal/reflectlite.rtype).Implements -/
def a114 : FAnn := ⟨0, [], [], [], false⟩
/-- (internal/reflectlite.rtype).Name -/
def a115 : FAnn := ⟨0, [], [], [], false⟩
/-- (internal/reflectlite.rtype).PkgPath -/
def a116 : FAnn := ⟨0, [], [], [], false⟩
/-- (internal/reflectlite.rtype).String -/
def a117 : FAnn := ⟨0, [], [], [], false⟩
/-- (internal/reflectlite.rtype).common -/
def a118 : FAnn := ⟨0, [], [], [], false⟩
/-- (internal/reflectlite.rtype).uncommon -/
def a119 : FAnn := ⟨0, [], [], [], false⟩
/-- (*internal/reflectlite.ValueError).Error -/
def a120 : FAnn := ⟨0, [], [], [], false⟩
/-- (*silt/fault.fault).Error -/
def a121 : FAnn := ⟨0, [], [], [], false⟩
/-- (*silt/fault.fault).Unwrap -/
def a122 : FAnn := ⟨5, [0, 2], [], [], true⟩
/-- (*internal/abi.UncommonType).ExportedMethods -/
def a123 : FAnn := ⟨0, [], [], [], false⟩
/-- var's door: errors.errorType is laid by its own call of reflectlite.TypeOf on a nil pointer and Elem of it (handle 1) -/
def a124 : FAnn := ⟨0, [], [], [], false⟩
/-- var's door: gosem.cut.vars holds initialisers alone; see the manifest's row cutvarsword (look 11, test files too) -/
def a125 : FAnn := ⟨0, [], [], [], false⟩
/-- var's door: the look of gosem.cut.vars went over the folder that the caller named as the repository's root (look 11) -/
def a126 : FAnn := ⟨0, [], [], [], false⟩
/-- gosem.cut.vars -/
def a127 : FAnn := ⟨0, [], [], [], true⟩
def anns : List FAnn := [a0, a1, a2, a3, a4, a5, a6, a7, a8, a9, a10, a11, a12, a13, a14, a15, a16, a17, a18, a19, a20, a21, a22, a23, a24, a25, a26, a27, a28, a29, a30, a31, a32, a33, a34, a35, a36, a37, a38, a39, a40, a41, a42, a43, a44, a45, a46, a47, a48, a49, a50, a51, a52, a53, a54, a55, a56, a57, a58, a59, a60, a61, a62, a63, a64, a65, a66, a67, a68, a69, a70, a71, a72, a73, a74, a75, a76, a77, a78, a79, a80, a81, a82, a83, a84, a85, a86, a87, a88, a89, a90, a91, a92, a93, a94, a95, a96, a97, a98, a99, a100, a101, a102, a103, a104, a105, a106, a107, a108, a109, a110, a111, a112, a113, a114, a115, a116, a117, a118, a119, a120, a121, a122, a123, a124, a125, a126, a127]
def ann (f : FuncId) : FAnn := (anns[f]?).getD ⟨0, [], [], [], false⟩
def tab : List (Nat × Nat) := [(60, 10), (61, 11), (62, 12), (77, 1), (78, 13), (79, 14), (101, 7), (111, 5), (112, 3), (113, 2), (114, 4)]
end Go.Proofs.YtlnbbgagccgnjaaDoor
