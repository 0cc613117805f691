/-
  The functions of the program, printed: part 2. Each is what the machine does on its text.
-/
import Derived.Test.YtkkbnchpedacjaaGreatDoorMBase
namespace Go.Proofs.YtkkbnchpedacjaaGreatDoor
open Go Go.X
set_option linter.unusedVariables false
/-- silt/anchor.read -/
noncomputable def r222 (R : Type) : Bx (Txt R) := ⟨fun I fuel KO KK args H k => match args with
  | [a0, a1] => (fun n0 =>
 I.alloc 27 H fun v0 H1 =>
 I.alloc 270 H1 fun v2 H3 =>
 I.head n0 4179 [(0, a0), (1, a1), (4, v0), (5, .nili), (6, v2), (7, .bad), (8, .bad), (9, .bad), (10, .bad), (11, .bad), (12, (.int .i64 0)), (13, .bad), (25, .bad), (55, .bad)] H3 false fun L4 H5 => loopM I n0 4179 (fun L6 H7 e8 k9 =>
 I.bin .lss 3 true (lookQ L6 12) (.int .i64 2) fun v10 =>
 I.cond v10 (
 I.bin .mul 3 true (.int .i64 2) (lookQ L6 1) fun v11 =>
 I.bin .add 3 false v11 (lookQ L6 12) fun v12 =>
 KK 172 [(lookQ L6 0), v12] H7 fun v13 H14 f15 => (fun e16 =>
 I.ext v13 0 fun v17 =>
 I.ext v13 1 fun v18 =>
 I.alloc 269 H14 fun v19 H20 =>
 I.store n0 269 H20 v19 v17 fun H21 f22 => (fun e23 =>
 I.bin .neq 33 true v18 (.int .i64 0) fun v24 =>
 I.cond v24 (
 I.build 27 [] fun v25 =>
 KK 153 [(.int .i64 13), (.str ⟨#[114, 101, 97, 100]⟩)] H21 fun v26 H27 f28 => (fun e29 =>
 KK 86 [v26, (.str ⟨#[114, 101, 103, 105, 111, 110]⟩)] H27 fun v30 H31 f32 => (fun e33 =>
 I.store n0 27 H31 (lookQ L6 4) v25 fun H34 f35 => (fun e36 =>
 k9 .ret [(0, (lookQ L6 0)), (1, (lookQ L6 1)), (4, (lookQ L6 4)), (5, v30), (6, (lookQ L6 6)), (7, (lookQ L6 12)), (8, v19), (9, v18), (10, (lookQ L6 10)), (11, (lookQ L6 11)), (12, (lookQ L6 12)), (13, v10), (25, v24), (55, (lookQ L6 55))] H34 e36) (escQ f35 e33)) (escQ f32 e29)) (escQ f28 e23)) (
 I.load 269 H21 v19 fun v37 =>
 I.ia 270 (lookQ L6 6) (lookQ L6 12) fun v38 =>
 I.store n0 269 H21 v38 v37 fun H39 f40 => (fun e41 =>
 I.bin .add 3 true (lookQ L6 12) (.int .i64 1) fun v42 =>
 k9 .normal [(0, (lookQ L6 0)), (1, (lookQ L6 1)), (4, (lookQ L6 4)), (5, (lookQ L6 5)), (6, (lookQ L6 6)), (7, (lookQ L6 12)), (8, v19), (9, v18), (10, (lookQ L6 10)), (11, (lookQ L6 11)), (12, v42), (13, v10), (25, v24), (55, (lookQ L6 55))] H39 e41) (escQ f40 e23))) (escQ f22 e16)) (escQ f15 e8)) (
 k9 (.exit 0) [(0, (lookQ L6 0)), (1, (lookQ L6 1)), (4, (lookQ L6 4)), (5, (lookQ L6 5)), (6, (lookQ L6 6)), (7, (lookQ L6 7)), (8, (lookQ L6 8)), (9, (lookQ L6 9)), (10, (lookQ L6 10)), (11, (lookQ L6 11)), (12, (lookQ L6 12)), (13, v10), (25, (lookQ L6 25)), (55, (lookQ L6 55))] H7 e8)) fuel L4 H5 false (selK I.bot [(0, (fun L43 H44 e45 =>
 I.load 270 H44 (lookQ L43 6) fun v46 =>
 KK 279 [v46] H44 fun v47 H48 f49 => (fun e50 =>
 I.ext v47 0 fun v51 =>
 I.ext v47 1 fun v52 =>
 I.alloc 27 H48 fun v53 H54 =>
 I.store n0 27 H54 v53 v51 fun H55 f56 => (fun e57 =>
 I.bin .neq 33 true v52 (.int .i64 0) fun v58 =>
 I.gd v58 false (fun K59 => I.fa 27 0 v53 fun v63 =>
 K59 v63 H55 e57) H55 e57 fun v60 H61 e62 =>
 I.gd v58 false (fun K64 => I.load 22 H61 v60 fun v68 =>
 K64 v68 H61 e62) H61 e62 fun v65 H66 e67 =>
 I.gd v58 false (fun K69 => I.bin .rem 22 true v65 (.int .u32 2) fun v73 =>
 K69 v73 H66 e67) H66 e67 fun v70 H71 e72 =>
 I.gd v58 false (fun K74 => I.conv 22 3 v70 H71 fun v78 H79 =>
 K74 v78 H79 e72) H71 e72 fun v75 H76 e77 =>
 I.gd v58 false (fun K80 => K80 (lookQ L43 1) H76 e77) H76 e77 fun v81 H82 e83 =>
 I.gd v58 false (fun K84 => I.bin .neq 3 false v75 v81 fun v88 =>
 K84 v88 H82 e83) H82 e83 fun v85 H86 e87 =>
 I.pick v58 (.bool true) v85 fun v89 =>
 I.gd v89 false (fun K90 => K90 (lookQ L43 0) H86 e87) H86 e87 fun v91 H92 e93 =>
 I.gd v89 false (fun K94 => I.fa 27 1 v53 fun v98 =>
 K94 v98 H92 e93) H92 e93 fun v95 H96 e97 =>
 I.gd v89 false (fun K99 => I.load 24 H96 v95 fun v103 =>
 K99 v103 H96 e97) H96 e97 fun v100 H101 e102 =>
 I.gd v89 false (fun K104 => KK 74 [v91] H101 fun v108 H109 f110 => (fun e111 =>
 K104 v108 H109 e111) (escQ f110 e102)) H101 e102 fun v105 H106 e107 =>
 I.gd v89 false (fun K112 => KK 75 [v100] H106 fun v116 H117 f118 => (fun e119 =>
 K112 v116 H117 e119) (escQ f118 e107)) H106 e107 fun v113 H114 e115 =>
 I.gd v89 false (fun K120 => I.bin .lss 3 false v105 v113 fun v124 =>
 K120 v124 H114 e115) H114 e115 fun v121 H122 e123 =>
 I.pick v89 (.bool true) v121 fun v125 =>
 I.cg v89 false (fun r126 => I.load 24 H106 v95 fun v127 =>
 I.same v127 v100 (
 r126)) (
 I.cond v125 (
 I.build 27 [] fun v128 =>
 KK 153 [(.int .i64 13), (.str ⟨#[100, 101, 99, 111, 100, 101]⟩)] H122 fun v129 H130 f131 => (fun e132 =>
 KK 86 [v129, (.str ⟨#[114, 101, 103, 105, 111, 110]⟩)] H130 fun v133 H134 f135 => (fun e136 =>
 I.store n0 27 H134 (lookQ L43 4) v128 fun H137 f138 => (fun e139 =>
 I.load 27 H137 (lookQ L43 4) fun v140 =>
 I.fin n0 H137 e139 [v140, v133] k) (escQ f138 e136)) (escQ f135 e132)) (escQ f131 e123)) (
 I.load 27 H122 v53 fun v141 =>
 I.store n0 27 H122 (lookQ L43 4) v141 fun H142 f143 => (fun e144 =>
 I.load 27 H142 (lookQ L43 4) fun v145 =>
 I.fin n0 H142 e144 [v145, .nili] k) (escQ f143 e123)))) (escQ f56 e50)) (escQ f49 e45)))] (fun L146 H147 e148 =>
 I.load 27 H147 (lookQ L146 4) fun v149 =>
 I.fin n0 H147 e148 [v149, (lookQ L146 5)] k))) (lenQ H)
  | _ => I.bot⟩
theorem ok222 (R : Type) : TxtOk Tryz.prog U ann 222 (r222 R) := fun I fuel KO KK args H k => match args with
  | [] => .inl rfl
  | [_] => .inl rfl
  | [a0, a1] => .inr (by kernel_rfl)
  | _ :: _ :: _ :: _ => .inl rfl
/-- silt/mappage.Join -/
noncomputable def r223 (R : Type) : Bx (Txt R) := ⟨fun I fuel KO KK args H k => match args with
  | [a0, a1] => (fun n0 =>
 I.box a0 H fun v0 H1 =>
 I.load 24 H1 v0 fun v2 =>
 KK 73 [v2] H1 fun v3 H4 f5 => (fun e6 =>
 I.un .not v3 fun v7 =>
 I.cond v7 (
 I.fin n0 H4 e6 [.nils, (.int .i64 1)] k) (
 I.len a1 fun v8 =>
 I.load 24 H4 v0 fun v9 =>
 KK 96 [v9] H4 fun v10 H11 f12 => (fun e13 =>
 I.bin .neq 3 false v8 v10 fun v14 =>
 I.cond v14 (
 I.fin n0 H11 e13 [.nils, (.int .i64 11)] k) (
 I.len a1 fun v15 =>
 I.head n0 14680134 [(0, a0), (1, a1), (2, v0), (4, .nils), (5, (.int .i64 0)), (6, .nils), (8, .bad), (9, .bad), (10, .bad), (11, .bad), (12, .bad), (15, v7), (20, v14), (21, a1), (22, v15), (23, (.int .i64 0)), (24, .bad), (43, .bad), (44, .bad), (45, .bad), (46, .bad), (47, .bad), (57, .bad)] H11 e13 fun L16 H17 => loopM I n0 14680134 (fun L18 H19 e20 k21 =>
 I.bin .lss 3 false (lookQ L18 23) (lookQ L18 22) fun v22 =>
 I.cond v22 (
 I.ia 264 (lookQ L18 21) (lookQ L18 23) fun v23 =>
 I.load 158 H19 v23 fun v24 =>
 I.alloc 158 H19 fun v25 H26 =>
 I.store n0 158 H26 v25 v24 fun H27 f28 => (fun e29 =>
 I.fa 158 6 v25 fun v30 =>
 I.slice 25 H27 v30 none none fun v31 =>
 I.blt true .append #[28, 28] n0 [(lookQ L18 6), v31] H27 fun v32 H33 f34 => (fun e35 =>
 I.bin .add 3 true (lookQ L18 23) (.int .i64 1) fun v36 =>
 k21 .normal [(0, (lookQ L18 0)), (1, (lookQ L18 1)), (2, (lookQ L18 2)), (4, (lookQ L18 4)), (5, (lookQ L18 5)), (6, v32), (8, v25), (9, (lookQ L18 9)), (10, (lookQ L18 10)), (11, (lookQ L18 11)), (12, (lookQ L18 12)), (15, (lookQ L18 15)), (20, (lookQ L18 20)), (21, (lookQ L18 21)), (22, (lookQ L18 22)), (23, v36), (24, v22), (43, (lookQ L18 43)), (44, (lookQ L18 44)), (45, (lookQ L18 45)), (46, (lookQ L18 46)), (47, (lookQ L18 47)), (57, (lookQ L18 57))] H33 e35) (escQ f34 e29)) (escQ f28 e20)) (
 k21 (.exit 0) [(0, (lookQ L18 0)), (1, (lookQ L18 1)), (2, (lookQ L18 2)), (4, (lookQ L18 4)), (5, (lookQ L18 5)), (6, (lookQ L18 6)), (8, (lookQ L18 8)), (9, (lookQ L18 9)), (10, (lookQ L18 10)), (11, (lookQ L18 11)), (12, (lookQ L18 12)), (15, (lookQ L18 15)), (20, (lookQ L18 20)), (21, (lookQ L18 21)), (22, (lookQ L18 22)), (23, (lookQ L18 23)), (24, v22), (43, (lookQ L18 43)), (44, (lookQ L18 44)), (45, (lookQ L18 45)), (46, (lookQ L18 46)), (47, (lookQ L18 47)), (57, (lookQ L18 57))] H19 e20)) fuel L16 H17 e13 (selK I.bot [(0, (fun L37 H38 e39 =>
 I.fa 24 0 (lookQ L37 2) fun v40 =>
 I.load 3 H38 v40 fun v41 =>
 I.slice 28 H38 (lookQ L37 6) none (some v41) fun v42 =>
 I.load 24 H38 (lookQ L37 2) fun v43 =>
 KK 175 [v43, v42] H38 fun v44 H45 f46 => (fun e47 =>
 I.ext v44 0 fun v48 =>
 I.ext v44 1 fun v49 =>
 I.bin .neq 33 true v49 (.int .i64 0) fun v50 =>
 I.cond v50 (
 I.fin n0 H45 e47 [.nils, (.int .i64 11)] k) (
 I.len v48 fun v51 =>
 I.head n0 123145302310978 [(0, (lookQ L37 0)), (1, (lookQ L37 1)), (2, (lookQ L37 2)), (4, (lookQ L37 4)), (5, (lookQ L37 5)), (6, v42), (8, (lookQ L37 8)), (9, v48), (10, v49), (11, (lookQ L37 11)), (12, (lookQ L37 12)), (15, (lookQ L37 15)), (20, (lookQ L37 20)), (21, (lookQ L37 21)), (22, (lookQ L37 22)), (23, (lookQ L37 23)), (24, (lookQ L37 24)), (43, v50), (44, v48), (45, v51), (46, (.int .i64 0)), (47, (lookQ L37 47)), (57, (lookQ L37 57))] H45 e47 fun L52 H53 => loopM I n0 123145302310978 (fun L54 H55 e56 k57 =>
 I.bin .lss 3 false (lookQ L54 46) (lookQ L54 45) fun v58 =>
 I.cond v58 (
 I.ia 264 (lookQ L54 44) (lookQ L54 46) fun v59 =>
 I.load 158 H55 v59 fun v60 =>
 I.alloc 158 H55 fun v61 H62 =>
 I.store n0 158 H62 v61 v60 fun H63 f64 => (fun e65 =>
 I.load 158 H63 v61 fun v66 =>
 I.ia 264 (lookQ L54 1) (lookQ L54 46) fun v67 =>
 I.load 158 H63 v67 fun v68 =>
 KK 280 [v66, v68] H63 fun v69 H70 f71 => (fun e72 =>
 I.un .not v69 fun v73 =>
 I.cond v73 (
 k57 .ret [(0, (lookQ L54 0)), (1, (lookQ L54 1)), (2, (lookQ L54 2)), (4, .nils), (5, (.int .i64 11)), (6, (lookQ L54 6)), (8, (lookQ L54 8)), (9, (lookQ L54 9)), (10, (lookQ L54 10)), (11, (lookQ L54 46)), (12, v61), (15, (lookQ L54 15)), (20, (lookQ L54 20)), (21, (lookQ L54 21)), (22, (lookQ L54 22)), (23, (lookQ L54 23)), (24, (lookQ L54 24)), (43, (lookQ L54 43)), (44, (lookQ L54 44)), (45, (lookQ L54 45)), (46, (lookQ L54 46)), (47, v58), (57, v73)] H70 e72) (
 I.bin .add 3 true (lookQ L54 46) (.int .i64 1) fun v74 =>
 k57 .normal [(0, (lookQ L54 0)), (1, (lookQ L54 1)), (2, (lookQ L54 2)), (4, (lookQ L54 4)), (5, (lookQ L54 5)), (6, (lookQ L54 6)), (8, (lookQ L54 8)), (9, (lookQ L54 9)), (10, (lookQ L54 10)), (11, (lookQ L54 46)), (12, v61), (15, (lookQ L54 15)), (20, (lookQ L54 20)), (21, (lookQ L54 21)), (22, (lookQ L54 22)), (23, (lookQ L54 23)), (24, (lookQ L54 24)), (43, (lookQ L54 43)), (44, (lookQ L54 44)), (45, (lookQ L54 45)), (46, v74), (47, v58), (57, v73)] H70 e72)) (escQ f71 e65)) (escQ f64 e56)) (
 k57 (.exit 2) [(0, (lookQ L54 0)), (1, (lookQ L54 1)), (2, (lookQ L54 2)), (4, (lookQ L54 4)), (5, (lookQ L54 5)), (6, (lookQ L54 6)), (8, (lookQ L54 8)), (9, (lookQ L54 9)), (10, (lookQ L54 10)), (11, (lookQ L54 11)), (12, (lookQ L54 12)), (15, (lookQ L54 15)), (20, (lookQ L54 20)), (21, (lookQ L54 21)), (22, (lookQ L54 22)), (23, (lookQ L54 23)), (24, (lookQ L54 24)), (43, (lookQ L54 43)), (44, (lookQ L54 44)), (45, (lookQ L54 45)), (46, (lookQ L54 46)), (47, v58), (57, (lookQ L54 57))] H55 e56)) fuel L52 H53 e47 (selK I.bot [(2, (fun L75 H76 e77 =>
 I.fin n0 H76 e77 [(lookQ L75 6), (.int .i64 0)] k))] (fun L78 H79 e80 =>
 I.fin n0 H79 e80 [(lookQ L78 4), (lookQ L78 5)] k)))) (escQ f46 e39)))] (fun _ _ _ => I.bot)))) (escQ f12 e6))) (escQ f5 false)) (lenQ H)
  | _ => I.bot⟩
theorem ok223 (R : Type) : TxtOk Tryz.prog U ann 223 (r223 R) := fun I fuel KO KK args H k => match args with
  | [] => .inl rfl
  | [_] => .inl rfl
  | [a0, a1] => .inr (by kernel_rfl)
  | _ :: _ :: _ :: _ => .inl rfl
/-- silt/heads.Count -/
noncomputable def r224 (R : Type) : Bx (Txt R) := ⟨fun I fuel KO KK args H k => match args with
  | [a0] => (fun n0 =>
 I.len a0 fun v0 =>
 I.head n0 456 [(0, a0), (2, (.int .i64 0)), (3, (.int .i64 0)), (5, .bad), (6, a0), (7, v0), (8, (.int .i64 0)), (9, .bad), (13, .bad)] H false fun L1 H2 => loopM I n0 456 (fun L3 H4 e5 k6 =>
 I.bin .lss 3 false (lookQ L3 8) (lookQ L3 7) fun v7 =>
 I.cond v7 (
 I.join (fun L8 H9 e10 =>
 I.bin .add 3 true (lookQ L8 8) (.int .i64 1) fun v11 =>
 k6 .normal [(0, (lookQ L8 0)), (2, (lookQ L8 2)), (3, (lookQ L8 3)), (5, (lookQ L8 5)), (6, (lookQ L8 6)), (7, (lookQ L8 7)), (8, v11), (9, (lookQ L8 9)), (13, (lookQ L8 13))] H9 e10) fun j12 =>
 I.ia 28 (lookQ L3 6) (lookQ L3 8) fun v13 =>
 I.load 3 H4 v13 fun v14 =>
 I.bin .neq 3 true v14 (.int .i64 0) fun v15 =>
 I.cond v15 (
 I.bin .add 3 true (lookQ L3 3) (.int .i64 1) fun v16 =>
 j12 [(0, (lookQ L3 0)), (2, (lookQ L3 2)), (3, v16), (5, v14), (6, (lookQ L3 6)), (7, (lookQ L3 7)), (8, (lookQ L3 8)), (9, v7), (13, v15)] H4 e5) (
 j12 [(0, (lookQ L3 0)), (2, (lookQ L3 2)), (3, (lookQ L3 3)), (5, v14), (6, (lookQ L3 6)), (7, (lookQ L3 7)), (8, (lookQ L3 8)), (9, v7), (13, v15)] H4 e5)) (
 k6 (.exit 0) [(0, (lookQ L3 0)), (2, (lookQ L3 2)), (3, (lookQ L3 3)), (5, (lookQ L3 5)), (6, (lookQ L3 6)), (7, (lookQ L3 7)), (8, (lookQ L3 8)), (9, v7), (13, (lookQ L3 13))] H4 e5)) fuel L1 H2 false (selK I.bot [(0, (fun L17 H18 e19 =>
 I.fin n0 H18 e19 [(lookQ L17 3)] k))] (fun _ _ _ => I.bot))) (lenQ H)
  | _ => I.bot⟩
theorem ok224 (R : Type) : TxtOk Tryz.prog U ann 224 (r224 R) := fun I fuel KO KK args H k => match args with
  | [] => .inl rfl
  | [a0] => .inr (by kernel_rfl)
  | _ :: _ :: _ => .inl rfl
/-- slices.Sorted[int] -/
noncomputable def r225 (R : Type) : Bx (Txt R) := ⟨fun I fuel KO KK args H k => match args with
  | [a0] => (fun n0 =>
 KK 281 [a0] H fun v0 H1 f2 => (fun e3 =>
 KK 204 [v0] H1 fun v4 H5 f6 => (fun e7 =>
 I.fin n0 H5 e7 [v0] k) (escQ f6 e3)) (escQ f2 false)) (lenQ H)
  | _ => I.bot⟩
theorem ok225 (R : Type) : TxtOk Tryz.prog U ann 225 (r225 R) := fun I fuel KO KK args H k => match args with
  | [] => .inl rfl
  | [a0] => .inr (by kernel_rfl)
  | _ :: _ :: _ => .inl rfl
/-- slices.Values[[]int,int] -/
noncomputable def r226 (R : Type) : Bx (Txt R) := ⟨fun I fuel KO KK args H k => match args with
  | [a0] => (fun n0 =>
 I.box a0 H fun v0 H1 =>
 I.mkF (.func 282) [] [v0] fun v2 =>
 I.fin n0 H1 false [v2] k) (lenQ H)
  | _ => I.bot⟩
theorem ok226 (R : Type) : TxtOk Tryz.prog U ann 226 (r226 R) := fun I fuel KO KK args H k => match args with
  | [] => .inl rfl
  | [a0] => .inr (by kernel_rfl)
  | _ :: _ :: _ => .inl rfl
/-- (silt/scan.log).next -/
noncomputable def r227 (R : Type) : Bx (Txt R) := ⟨fun I fuel KO KK args H k => match args with
  | [a0, a1] => (fun n0 =>
 I.box a0 H fun v0 H1 =>
 I.box a1 H1 fun v2 H3 =>
 I.alloc 260 H3 fun v4 H5 =>
 I.alloc 30 H5 fun v6 H7 =>
 I.load 359 H7 v0 fun v8 =>
 I.load 30 H7 v2 fun v9 =>
 KK 283 [v8, v9] H7 fun v10 H11 f12 => (fun e13 =>
 I.ext v10 0 fun v14 =>
 I.ext v10 1 fun v15 =>
 I.ext v10 2 fun v16 =>
 I.alloc 260 H11 fun v17 H18 =>
 I.alloc 30 H18 fun v19 H20 =>
 I.store n0 260 H20 v17 v14 fun H21 f22 => (fun e23 =>
 I.store n0 30 H21 v19 v15 fun H24 f25 => (fun e26 =>
 I.mkI 33 (.int .i64 17) fun v27 =>
 KK 143 [v16, v27] H24 fun v28 H29 f30 => (fun e31 =>
 I.un .not v28 fun v32 =>
 I.gd v32 false (fun K33 => I.fa 30 3 v2 fun v37 =>
 K33 v37 H29 e31) H29 e31 fun v34 H35 e36 =>
 I.gd v32 false (fun K38 => I.load 28 H35 v34 fun v42 =>
 K38 v42 H35 e36) H35 e36 fun v39 H40 e41 =>
 I.gd v32 false (fun K43 => I.len v39 fun v47 =>
 K43 v47 H40 e41) H40 e41 fun v44 H45 e46 =>
 I.gd v32 false (fun K48 => I.bin .eql 3 true v44 (.int .i64 0) fun v52 =>
 K48 v52 H45 e46) H45 e46 fun v49 H50 e51 =>
 I.pick v32 (.bool true) v49 fun v53 =>
 I.cond v53 (
 I.load 260 H50 v17 fun v54 =>
 I.load 30 H50 v19 fun v55 =>
 I.store n0 260 H50 v4 v54 fun H56 f57 => (fun e58 =>
 I.store n0 30 H56 v6 v55 fun H59 f60 => (fun e61 =>
 I.load 30 H56 v19 fun v62 =>
 I.same v62 v55 (
 I.load 260 H59 v4 fun v63 =>
 I.load 30 H59 v6 fun v64 =>
 I.fin n0 H59 e61 [v63, v64, v16] k)) (escQ f60 e58)) (escQ f57 e51)) (
 I.fa 30 3 v2 fun v65 =>
 I.load 28 H50 v65 fun v66 =>
 I.ia 28 v66 (.int .i64 0) fun v67 =>
 I.load 3 H50 v67 fun v68 =>
 I.fa 30 3 v2 fun v69 =>
 I.load 28 H50 v69 fun v70 =>
 I.slice 28 H50 v70 (some (.int .i64 1)) none fun v71 =>
 I.fa 30 0 v2 fun v72 =>
 I.store n0 3 H50 v72 v68 fun H73 f74 => (fun e75 =>
 I.fa 30 1 v2 fun v76 =>
 I.store n0 3 H73 v76 (.int .i64 0) fun H77 f78 => (fun e79 =>
 I.fa 30 3 v2 fun v80 =>
 I.store n0 28 H77 v80 v71 fun H81 f82 => (fun e83 =>
 I.slice 28 H73 v70 (some (.int .i64 1)) none fun v84 =>
 I.same v84 v71 (
 I.slice 28 H77 v70 (some (.int .i64 1)) none fun v85 =>
 I.same v85 v71 (
 I.load 359 H81 v0 fun v86 =>
 I.load 30 H81 v2 fun v87 =>
 KK 283 [v86, v87] H81 fun v88 H89 f90 => (fun e91 =>
 I.ext v88 0 fun v92 =>
 I.ext v88 1 fun v93 =>
 I.ext v88 2 fun v94 =>
 I.store n0 260 H89 v4 v92 fun H95 f96 => (fun e97 =>
 I.store n0 30 H95 v6 v93 fun H98 f99 => (fun e100 =>
 I.load 260 H98 v4 fun v101 =>
 I.load 30 H98 v6 fun v102 =>
 I.fin n0 H98 e100 [v101, v102, v94] k) (escQ f99 e97)) (escQ f96 e91)) (escQ f90 e83)))) (escQ f82 e79)) (escQ f78 e75)) (escQ f74 e51))) (escQ f30 e26)) (escQ f25 e23)) (escQ f22 e13)) (escQ f12 false)) (lenQ H)
  | _ => I.bot⟩
theorem ok227 (R : Type) : TxtOk Tryz.prog U ann 227 (r227 R) := fun I fuel KO KK args H k => match args with
  | [] => .inl rfl
  | [_] => .inl rfl
  | [a0, a1] => .inr (by kernel_rfl)
  | _ :: _ :: _ :: _ => .inl rfl
/-- errors.as -/
noncomputable def r234 (R : Type) : Bx (Txt R) := ⟨fun I fuel KO KK args H k => match args with
  | [a0, a1, a2, a3] => (fun n0 =>
 I.box a2 H fun v0 H1 =>
 I.head n0 75 [(0, a0), (1, a1), (2, a2), (3, a3), (6, v0), (8, (.bool false)), (9, .bad), (10, .bad), (11, .bad), (12, .bad), (14, .bad), (19, .bad), (35, .bad), (36, .bad), (38, .bad), (39, .bad), (43, .bad), (45, .bad), (46, .bad), (48, .bad), (49, .bad), (50, .bad), (51, .bad), (55, .bad), (60, .bad)] H1 false fun L2 H3 => loopM I n0 75 (fun L4 H5 e6 k7 =>
 I.extern 213 [(lookQ L4 0)] H5 fun v8 H9 f10 => (fun e11 =>
 I.inv KK v8 "AssignableTo" [(lookQ L4 3)] H9 fun v12 H13 f14 => (fun e15 =>
 I.cond v12 (
 I.load 366 H13 (lookQ L4 6) fun v16 =>
 I.extern 284 [v16] H13 fun v17 H18 f19 => (fun e20 =>
 I.extern 231 [(lookQ L4 0)] H18 fun v21 H22 f23 => (fun e24 =>
 I.extern 285 [v17, v21] H22 fun v25 H26 f27 => (fun e28 =>
 k7 .ret [(0, (lookQ L4 0)), (1, (lookQ L4 1)), (2, (lookQ L4 2)), (3, (lookQ L4 3)), (6, (lookQ L4 6)), (8, (.bool true)), (9, (lookQ L4 9)), (10, (lookQ L4 10)), (11, (lookQ L4 11)), (12, (lookQ L4 12)), (14, (lookQ L4 14)), (19, v12), (35, (lookQ L4 35)), (36, (lookQ L4 36)), (38, (lookQ L4 38)), (39, (lookQ L4 39)), (43, (lookQ L4 43)), (45, (lookQ L4 45)), (46, (lookQ L4 46)), (48, (lookQ L4 48)), (49, (lookQ L4 49)), (50, (lookQ L4 50)), (51, (lookQ L4 51)), (55, (lookQ L4 55)), (60, (lookQ L4 60))] H26 e28) (escQ f27 e24)) (escQ f23 e20)) (escQ f19 e15)) (
 I.ta (lookQ L4 0) 421 true fun v29 =>
 I.ext v29 0 fun v30 =>
 I.ext v29 1 fun v31 =>
 I.gd v31 true (fun K32 => K32 v30 H13 e15) H13 e15 fun v33 H34 e35 =>
 I.gd v31 true (fun K36 => K36 (lookQ L4 1) H34 e35) H34 e35 fun v37 H38 e39 =>
 I.gd v31 true (fun K40 => I.inv KK v33 "As" [v37] H38 fun v44 H45 f46 => (fun e47 =>
 K40 v44 H45 e47) (escQ f46 e39)) H38 e39 fun v41 H42 e43 =>
 I.pick v31 v41 (.bool false) fun v48 =>
 I.cond v48 (
 k7 .ret [(0, (lookQ L4 0)), (1, (lookQ L4 1)), (2, (lookQ L4 2)), (3, (lookQ L4 3)), (6, (lookQ L4 6)), (8, (.bool true)), (9, v30), (10, v31), (11, (lookQ L4 11)), (12, (lookQ L4 12)), (14, (lookQ L4 14)), (19, v12), (35, v48), (36, (lookQ L4 36)), (38, (lookQ L4 38)), (39, (lookQ L4 39)), (43, (lookQ L4 43)), (45, (lookQ L4 45)), (46, (lookQ L4 46)), (48, (lookQ L4 48)), (49, (lookQ L4 49)), (50, (lookQ L4 50)), (51, (lookQ L4 51)), (55, (lookQ L4 55)), (60, (lookQ L4 60))] H42 e43) (
 I.ta (lookQ L4 0) 411 true fun v49 =>
 I.ext v49 1 fun v50 =>
 I.ext v49 0 fun v51 =>
 I.cond v50 (
 I.inv KK v51 "Unwrap" [] H42 fun v52 H53 f54 => (fun e55 =>
 I.bin .eql 137 true v52 .nili fun v56 =>
 I.cond v56 (
 k7 .ret [(0, v52), (1, (lookQ L4 1)), (2, (lookQ L4 2)), (3, (lookQ L4 3)), (6, (lookQ L4 6)), (8, (.bool false)), (9, v30), (10, v31), (11, v51), (12, (lookQ L4 12)), (14, (lookQ L4 14)), (19, v12), (35, v48), (36, (lookQ L4 0)), (38, v50), (39, v51), (43, v56), (45, (lookQ L4 45)), (46, (lookQ L4 46)), (48, (lookQ L4 48)), (49, (lookQ L4 49)), (50, (lookQ L4 50)), (51, (lookQ L4 51)), (55, (lookQ L4 55)), (60, (lookQ L4 60))] H53 e55) (
 k7 .normal [(0, v52), (1, (lookQ L4 1)), (2, (lookQ L4 2)), (3, (lookQ L4 3)), (6, (lookQ L4 6)), (8, (lookQ L4 8)), (9, v30), (10, v31), (11, v51), (12, (lookQ L4 12)), (14, (lookQ L4 14)), (19, v12), (35, v48), (36, (lookQ L4 0)), (38, v50), (39, v51), (43, v56), (45, (lookQ L4 45)), (46, (lookQ L4 46)), (48, (lookQ L4 48)), (49, (lookQ L4 49)), (50, (lookQ L4 50)), (51, (lookQ L4 51)), (55, (lookQ L4 55)), (60, (lookQ L4 60))] H53 e55)) (escQ f54 e43)) (
 I.ta (lookQ L4 0) 412 true fun v57 =>
 I.ext v57 1 fun v58 =>
 I.ext v57 0 fun v59 =>
 I.cond v58 (
 I.inv KK v59 "Unwrap" [] H42 fun v60 H61 f62 => (fun e63 =>
 I.len v60 fun v64 =>
 I.head n0 1970324836974666 [(0, (lookQ L4 0)), (1, (lookQ L4 1)), (2, (lookQ L4 2)), (3, (lookQ L4 3)), (6, (lookQ L4 6)), (8, (lookQ L4 8)), (9, v30), (10, v31), (11, (lookQ L4 11)), (12, v59), (14, (lookQ L4 14)), (19, v12), (35, v48), (36, (lookQ L4 0)), (38, v50), (39, v51), (43, (lookQ L4 43)), (45, v58), (46, v59), (48, v60), (49, v64), (50, (.int .i64 0)), (51, (lookQ L4 51)), (55, (lookQ L4 55)), (60, (lookQ L4 60))] H61 e63 fun L65 H66 => loopM I n0 1970324836974666 (fun L67 H68 e69 k70 =>
 I.bin .lss 3 false (lookQ L67 50) (lookQ L67 49) fun v71 =>
 I.cond v71 (
 I.join (fun L72 H73 e74 =>
 I.bin .add 3 true (lookQ L72 50) (.int .i64 1) fun v75 =>
 k70 .normal [(0, (lookQ L72 0)), (1, (lookQ L72 1)), (2, (lookQ L72 2)), (3, (lookQ L72 3)), (6, (lookQ L72 6)), (8, (lookQ L72 8)), (9, (lookQ L72 9)), (10, (lookQ L72 10)), (11, (lookQ L72 11)), (12, (lookQ L72 12)), (14, (lookQ L72 14)), (19, (lookQ L72 19)), (35, (lookQ L72 35)), (36, (lookQ L72 36)), (38, (lookQ L72 38)), (39, (lookQ L72 39)), (43, (lookQ L72 43)), (45, (lookQ L72 45)), (46, (lookQ L72 46)), (48, (lookQ L72 48)), (49, (lookQ L72 49)), (50, v75), (51, (lookQ L72 51)), (55, (lookQ L72 55)), (60, (lookQ L72 60))] H73 e74) fun j76 =>
 I.ia 413 (lookQ L67 48) (lookQ L67 50) fun v77 =>
 I.load 137 H68 v77 fun v78 =>
 I.bin .eql 137 true v78 .nili fun v79 =>
 I.cond v79 (
 j76 [(0, (lookQ L67 0)), (1, (lookQ L67 1)), (2, (lookQ L67 2)), (3, (lookQ L67 3)), (6, (lookQ L67 6)), (8, (lookQ L67 8)), (9, (lookQ L67 9)), (10, (lookQ L67 10)), (11, (lookQ L67 11)), (12, (lookQ L67 12)), (14, v78), (19, (lookQ L67 19)), (35, (lookQ L67 35)), (36, (lookQ L67 36)), (38, (lookQ L67 38)), (39, (lookQ L67 39)), (43, (lookQ L67 43)), (45, (lookQ L67 45)), (46, (lookQ L67 46)), (48, (lookQ L67 48)), (49, (lookQ L67 49)), (50, (lookQ L67 50)), (51, v71), (55, v79), (60, (lookQ L67 60))] H68 e69) (
 I.load 366 H68 (lookQ L67 6) fun v80 =>
 KK 234 [v78, (lookQ L67 1), v80, (lookQ L67 3)] H68 fun v81 H82 f83 => (fun e84 =>
 I.cond v81 (
 k70 .ret [(0, (lookQ L67 0)), (1, (lookQ L67 1)), (2, (lookQ L67 2)), (3, (lookQ L67 3)), (6, (lookQ L67 6)), (8, (.bool true)), (9, (lookQ L67 9)), (10, (lookQ L67 10)), (11, (lookQ L67 11)), (12, (lookQ L67 12)), (14, v78), (19, (lookQ L67 19)), (35, (lookQ L67 35)), (36, (lookQ L67 36)), (38, (lookQ L67 38)), (39, (lookQ L67 39)), (43, (lookQ L67 43)), (45, (lookQ L67 45)), (46, (lookQ L67 46)), (48, (lookQ L67 48)), (49, (lookQ L67 49)), (50, (lookQ L67 50)), (51, v71), (55, v79), (60, v81)] H82 e84) (
 j76 [(0, (lookQ L67 0)), (1, (lookQ L67 1)), (2, (lookQ L67 2)), (3, (lookQ L67 3)), (6, (lookQ L67 6)), (8, (lookQ L67 8)), (9, (lookQ L67 9)), (10, (lookQ L67 10)), (11, (lookQ L67 11)), (12, (lookQ L67 12)), (14, v78), (19, (lookQ L67 19)), (35, (lookQ L67 35)), (36, (lookQ L67 36)), (38, (lookQ L67 38)), (39, (lookQ L67 39)), (43, (lookQ L67 43)), (45, (lookQ L67 45)), (46, (lookQ L67 46)), (48, (lookQ L67 48)), (49, (lookQ L67 49)), (50, (lookQ L67 50)), (51, v71), (55, v79), (60, v81)] H82 e84)) (escQ f83 e69))) (
 k70 (.exit 3) [(0, (lookQ L67 0)), (1, (lookQ L67 1)), (2, (lookQ L67 2)), (3, (lookQ L67 3)), (6, (lookQ L67 6)), (8, (lookQ L67 8)), (9, (lookQ L67 9)), (10, (lookQ L67 10)), (11, (lookQ L67 11)), (12, (lookQ L67 12)), (14, (lookQ L67 14)), (19, (lookQ L67 19)), (35, (lookQ L67 35)), (36, (lookQ L67 36)), (38, (lookQ L67 38)), (39, (lookQ L67 39)), (43, (lookQ L67 43)), (45, (lookQ L67 45)), (46, (lookQ L67 46)), (48, (lookQ L67 48)), (49, (lookQ L67 49)), (50, (lookQ L67 50)), (51, v71), (55, (lookQ L67 55)), (60, (lookQ L67 60))] H68 e69)) fuel L65 H66 e63 (selK I.bot [(3, (fun L85 H86 e87 =>
 k7 .ret [(0, (lookQ L85 0)), (1, (lookQ L85 1)), (2, (lookQ L85 2)), (3, (lookQ L85 3)), (6, (lookQ L85 6)), (8, (.bool false)), (9, (lookQ L85 9)), (10, (lookQ L85 10)), (11, (lookQ L85 11)), (12, (lookQ L85 12)), (14, (lookQ L85 14)), (19, (lookQ L85 19)), (35, (lookQ L85 35)), (36, (lookQ L85 36)), (38, (lookQ L85 38)), (39, (lookQ L85 39)), (43, (lookQ L85 43)), (45, (lookQ L85 45)), (46, (lookQ L85 46)), (48, (lookQ L85 48)), (49, (lookQ L85 49)), (50, (lookQ L85 50)), (51, (lookQ L85 51)), (55, (lookQ L85 55)), (60, (lookQ L85 60))] H86 e87)), (4, (fun L88 H89 e90 =>
 k7 (.exit 4) [(0, (lookQ L88 0)), (1, (lookQ L88 1)), (2, (lookQ L88 2)), (3, (lookQ L88 3)), (6, (lookQ L88 6)), (8, (lookQ L88 8)), (9, (lookQ L88 9)), (10, (lookQ L88 10)), (11, (lookQ L88 11)), (12, (lookQ L88 12)), (14, (lookQ L88 14)), (19, (lookQ L88 19)), (35, (lookQ L88 35)), (36, (lookQ L88 36)), (38, (lookQ L88 38)), (39, (lookQ L88 39)), (43, (lookQ L88 43)), (45, (lookQ L88 45)), (46, (lookQ L88 46)), (48, (lookQ L88 48)), (49, (lookQ L88 49)), (50, (lookQ L88 50)), (51, (lookQ L88 51)), (55, (lookQ L88 55)), (60, (lookQ L88 60))] H89 e90))] (fun L91 H92 e93 =>
 k7 .ret [(0, (lookQ L91 0)), (1, (lookQ L91 1)), (2, (lookQ L91 2)), (3, (lookQ L91 3)), (6, (lookQ L91 6)), (8, (lookQ L91 8)), (9, (lookQ L91 9)), (10, (lookQ L91 10)), (11, (lookQ L91 11)), (12, (lookQ L91 12)), (14, (lookQ L91 14)), (19, (lookQ L91 19)), (35, (lookQ L91 35)), (36, (lookQ L91 36)), (38, (lookQ L91 38)), (39, (lookQ L91 39)), (43, (lookQ L91 43)), (45, (lookQ L91 45)), (46, (lookQ L91 46)), (48, (lookQ L91 48)), (49, (lookQ L91 49)), (50, (lookQ L91 50)), (51, (lookQ L91 51)), (55, (lookQ L91 55)), (60, (lookQ L91 60))] H92 e93))) (escQ f62 e43)) (
 k7 .ret [(0, (lookQ L4 0)), (1, (lookQ L4 1)), (2, (lookQ L4 2)), (3, (lookQ L4 3)), (6, (lookQ L4 6)), (8, (.bool false)), (9, v30), (10, v31), (11, (lookQ L4 11)), (12, (lookQ L4 12)), (14, (lookQ L4 14)), (19, v12), (35, v48), (36, (lookQ L4 0)), (38, v50), (39, v51), (43, (lookQ L4 43)), (45, v58), (46, v59), (48, (lookQ L4 48)), (49, (lookQ L4 49)), (50, (lookQ L4 50)), (51, (lookQ L4 51)), (55, (lookQ L4 55)), (60, (lookQ L4 60))] H42 e43))))) (escQ f14 e11)) (escQ f10 e6)) fuel L2 H3 false (selK I.bot [(3, (fun L94 H95 e96 =>
 I.bot)), (4, (fun L97 H98 e99 =>
 I.bot))] (fun L100 H101 e102 =>
 I.fin n0 H101 e102 [(lookQ L100 8)] k))) (lenQ H)
  | _ => I.bot⟩
theorem ok234 (R : Type) : TxtOk Tryz.prog U ann 234 (r234 R) := fun I fuel KO KK args H k => match args with
  | [] => .inl rfl
  | [_] => .inl rfl
  | [_, _] => .inl rfl
  | [_, _, _] => .inl rfl
  | [a0, a1, a2, a3] => .inr (by kernel_rfl)
  | _ :: _ :: _ :: _ :: _ :: _ => .inl rfl
/-- silt/region.number -/
noncomputable def r237 (R : Type) : Bx (Txt R) := ⟨fun I fuel KO KK args H k => match args with
  | [a0] => (fun n0 =>
 I.alloc 33 H fun v0 H1 =>
 I.mkI 263 v0 fun v2 =>
 KK 161 [a0, v2] H1 fun v3 H4 f5 => (fun e6 =>
 I.cond v3 (
 I.load 33 H4 v0 fun v7 =>
 I.fin n0 H4 e6 [v7] k) (
 I.fin n0 H4 e6 [(.int .i64 0)] k)) (escQ f5 false)) (lenQ H)
  | _ => I.bot⟩
theorem ok237 (R : Type) : TxtOk Tryz.prog U ann 237 (r237 R) := fun I fuel KO KK args H k => match args with
  | [] => .inl rfl
  | [a0] => .inr (by kernel_rfl)
  | _ :: _ :: _ => .inl rfl
/-- silt/region.wrong -/
noncomputable def r238 (R : Type) : Bx (Txt R) := ⟨fun I fuel KO KK args H k => match args with
  | [a0] => (fun n0 =>
 I.box a0 H fun v0 H1 =>
 I.fa 27 1 v0 fun v2 =>
 I.load 24 H1 v2 fun v3 =>
 KK 73 [v3] H1 fun v4 H5 f6 => (fun e7 =>
 I.un .not v4 fun v8 =>
 I.cond v8 (
 KK 153 [(.int .i64 11), (.str ⟨#[103, 101, 111, 109, 101, 116, 114, 121]⟩)] H5 fun v9 H10 f11 => (fun e12 =>
 I.fin n0 H10 e12 [v9] k) (escQ f11 e7)) (
 I.fa 27 2 v0 fun v13 =>
 I.load 3 H5 v13 fun v14 =>
 I.bin .lss 3 true v14 (.int .i64 0) fun v15 =>
 I.gd v15 false (fun K16 => I.fa 27 2 v0 fun v20 =>
 K16 v20 H5 e7) H5 e7 fun v17 H18 e19 =>
 I.gd v15 false (fun K21 => I.load 3 H18 v17 fun v25 =>
 K21 v25 H18 e19) H18 e19 fun v22 H23 e24 =>
 I.gd v15 false (fun K26 => I.fa 27 1 v0 fun v30 =>
 K26 v30 H23 e24) H23 e24 fun v27 H28 e29 =>
 I.gd v15 false (fun K31 => I.fa 24 1 v27 fun v35 =>
 K31 v35 H28 e29) H28 e29 fun v32 H33 e34 =>
 I.gd v15 false (fun K36 => I.load 3 H33 v32 fun v40 =>
 K36 v40 H33 e34) H33 e34 fun v37 H38 e39 =>
 I.gd v15 false (fun K41 => I.bin .geq 3 false v22 v37 fun v45 =>
 K41 v45 H38 e39) H38 e39 fun v42 H43 e44 =>
 I.pick v15 (.bool true) v42 fun v46 =>
 I.gd v46 false (fun K47 => I.fa 27 3 v0 fun v51 =>
 K47 v51 H43 e44) H43 e44 fun v48 H49 e50 =>
 I.gd v46 false (fun K52 => I.load 3 H49 v48 fun v56 =>
 K52 v56 H49 e50) H49 e50 fun v53 H54 e55 =>
 I.gd v46 false (fun K57 => I.bin .lss 3 true v53 (.int .i64 0) fun v61 =>
 K57 v61 H54 e55) H54 e55 fun v58 H59 e60 =>
 I.pick v46 (.bool true) v58 fun v62 =>
 I.gd v62 false (fun K63 => I.fa 27 3 v0 fun v67 =>
 K63 v67 H59 e60) H59 e60 fun v64 H65 e66 =>
 I.gd v62 false (fun K68 => I.load 3 H65 v64 fun v72 =>
 K68 v72 H65 e66) H65 e66 fun v69 H70 e71 =>
 I.gd v62 false (fun K73 => I.fa 27 1 v0 fun v77 =>
 K73 v77 H70 e71) H70 e71 fun v74 H75 e76 =>
 I.gd v62 false (fun K78 => I.fa 24 2 v74 fun v82 =>
 K78 v82 H75 e76) H75 e76 fun v79 H80 e81 =>
 I.gd v62 false (fun K83 => I.load 3 H80 v79 fun v87 =>
 K83 v87 H80 e81) H80 e81 fun v84 H85 e86 =>
 I.gd v62 false (fun K88 => I.bin .gtr 3 false v69 v84 fun v92 =>
 K88 v92 H85 e86) H85 e86 fun v89 H90 e91 =>
 I.pick v62 (.bool true) v89 fun v93 =>
 I.cond v93 (
 KK 153 [(.int .i64 11), (.str ⟨#[104, 101, 97, 100]⟩)] H90 fun v94 H95 f96 => (fun e97 =>
 I.fin n0 H95 e97 [v94] k) (escQ f96 e91)) (
 I.load 27 H90 v0 fun v98 =>
 KK 288 [v98] H90 fun v99 H100 f101 => (fun e102 =>
 KK 86 [v99, (.str ⟨#[114, 101, 103, 105, 111, 110]⟩)] H100 fun v103 H104 f105 => (fun e106 =>
 I.fin n0 H104 e106 [v103] k) (escQ f105 e102)) (escQ f101 e91)))) (escQ f6 false)) (lenQ H)
  | _ => I.bot⟩
theorem ok238 (R : Type) : TxtOk Tryz.prog U ann 238 (r238 R) := fun I fuel KO KK args H k => match args with
  | [] => .inl rfl
  | [a0] => .inr (by kernel_rfl)
  | _ :: _ :: _ => .inl rfl
/-- silt/region.four -/
noncomputable def r239 (R : Type) : Bx (Txt R) := ⟨fun I fuel KO KK args H k => match args with
  | [a0] => (fun n0 =>
 I.conv 22 5 a0 H fun v0 H1 =>
 I.bin .shr 22 true a0 (.int .u64 8) fun v2 =>
 I.conv 22 5 v2 H1 fun v3 H4 =>
 I.bin .shr 22 true a0 (.int .u64 16) fun v5 =>
 I.conv 22 5 v5 H4 fun v6 H7 =>
 I.bin .shr 22 true a0 (.int .u64 24) fun v8 =>
 I.conv 22 5 v8 H7 fun v9 H10 =>
 I.bslice 65 4 [(0, v0), (1, v3), (2, v6), (3, v9)] H10 fun v11 H12 =>
 I.fin n0 H12 false [v11] k) (lenQ H)
  | _ => I.bot⟩
theorem ok239 (R : Type) : TxtOk Tryz.prog U ann 239 (r239 R) := fun I fuel KO KK args H k => match args with
  | [] => .inl rfl
  | [a0] => .inr (by kernel_rfl)
  | _ :: _ :: _ => .inl rfl
/-- (*silt/dev.Dev).has -/
noncomputable def r240 (R : Type) : Bx (Txt R) := ⟨fun I fuel KO KK args H k => match args with
  | [a0, a1] => (fun n0 =>
 I.bin .geq 3 true a1 (.int .i64 0) fun v0 =>
 I.gd v0 true (fun K1 => K1 a1 H false) H false fun v2 H3 e4 =>
 I.gd v0 true (fun K5 => K5 a0 H3 e4) H3 e4 fun v6 H7 e8 =>
 I.gd v0 true (fun K9 => KK 74 [v6] H7 fun v13 H14 f15 => (fun e16 =>
 K9 v13 H14 e16) (escQ f15 e8)) H7 e8 fun v10 H11 e12 =>
 I.gd v0 true (fun K17 => I.bin .lss 3 false v2 v10 fun v21 =>
 K17 v21 H11 e12) H11 e12 fun v18 H19 e20 =>
 I.pick v0 v18 (.bool false) fun v22 =>
 I.fin n0 H19 e20 [v22] k) (lenQ H)
  | _ => I.bot⟩
theorem ok240 (R : Type) : TxtOk Tryz.prog U ann 240 (r240 R) := fun I fuel KO KK args H k => match args with
  | [] => .inl rfl
  | [_] => .inl rfl
  | [a0, a1] => .inr (by kernel_rfl)
  | _ :: _ :: _ :: _ => .inl rfl
/-- (*silt/dev.Dev).pass -/
noncomputable def r241 (R : Type) : Bx (Txt R) := ⟨fun I fuel KO KK args H k => match args with
  | [a0] => (fun n0 =>
 I.nil a0 fun v0 =>
 I.fa 144 2 v0 fun v1 =>
 I.load 3 H v1 fun v2 =>
 I.bin .eql 3 true v2 (.int .i64 0) fun v3 =>
 I.cond v3 (
 I.nil a0 fun v4 =>
 I.fa 144 2 v4 fun v5 =>
 I.store n0 3 H v5 (.int .i64 (-1)) fun H6 f7 => (fun e8 =>
 I.fin n0 H6 e8 [(.int .i64 12)] k) (escQ f7 false)) (
 I.join (fun L9 H10 e11 =>
 I.nil (lookQ L9 0) fun v12 =>
 I.fa 144 3 v12 fun v13 =>
 I.load 3 H10 v13 fun v14 =>
 I.bin .add 3 true v14 (.int .i64 1) fun v15 =>
 I.nil (lookQ L9 0) fun v16 =>
 I.fa 144 3 v16 fun v17 =>
 I.store n0 3 H10 v17 v15 fun H18 f19 => (fun e20 =>
 I.fin n0 H18 e20 [(.int .i64 0)] k) (escQ f19 e11)) fun j21 =>
 I.nil a0 fun v22 =>
 I.fa 144 2 v22 fun v23 =>
 I.load 3 H v23 fun v24 =>
 I.bin .gtr 3 true v24 (.int .i64 0) fun v25 =>
 I.cond v25 (
 I.nil a0 fun v26 =>
 I.fa 144 2 v26 fun v27 =>
 I.load 3 H v27 fun v28 =>
 I.bin .sub 3 true v28 (.int .i64 1) fun v29 =>
 I.nil a0 fun v30 =>
 I.fa 144 2 v30 fun v31 =>
 I.store n0 3 H v31 v29 fun H32 f33 => (fun e34 =>
 j21 [(0, a0), (2, (.int .i64 0)), (7, v3), (15, v25)] H32 e34) (escQ f33 false)) (
 j21 [(0, a0), (2, (.int .i64 0)), (7, v3), (15, v25)] H false))) (lenQ H)
  | _ => I.bot⟩
theorem ok241 (R : Type) : TxtOk Tryz.prog U ann 241 (r241 R) := fun I fuel KO KK args H k => match args with
  | [] => .inl rfl
  | [a0] => .inr (by kernel_rfl)
  | _ :: _ :: _ => .inl rfl
/-- silt/block.two -/
noncomputable def r246 (R : Type) : Bx (Txt R) := ⟨fun I fuel KO KK args H k => match args with
  | [a0] => (fun n0 =>
 I.ia 65 a0 (.int .i64 0) fun v0 =>
 I.load 5 H v0 fun v1 =>
 I.conv 5 3 v1 H fun v2 H3 =>
 I.ia 65 a0 (.int .i64 1) fun v4 =>
 I.load 5 H3 v4 fun v5 =>
 I.conv 5 3 v5 H3 fun v6 H7 =>
 I.bin .shl 3 true v6 (.int .u64 8) fun v8 =>
 I.bin .or 3 false v2 v8 fun v9 =>
 I.fin n0 H7 false [v9] k) (lenQ H)
  | _ => I.bot⟩
theorem ok246 (R : Type) : TxtOk Tryz.prog U ann 246 (r246 R) := fun I fuel KO KK args H k => match args with
  | [] => .inl rfl
  | [a0] => .inr (by kernel_rfl)
  | _ :: _ :: _ => .inl rfl
/-- silt/block.Encode -/
noncomputable def r248 (R : Type) : Bx (Txt R) := ⟨fun I fuel KO KK args H k => match args with
  | [a0, a1] => (fun n0 =>
 I.box a0 H fun v0 H1 =>
 I.alloc 269 H1 fun v2 H3 =>
 I.load 158 H3 v0 fun v4 =>
 KK 181 [v4] H3 fun v5 H6 f7 => (fun e8 =>
 I.un .not v5 fun v9 =>
 I.cond v9 (
 I.build 269 [] fun v10 =>
 I.store n0 269 H6 v2 v10 fun H11 f12 => (fun e13 =>
 I.load 269 H11 v2 fun v14 =>
 I.fin n0 H11 e13 [v14, (.int .i64 11)] k) (escQ f12 e8)) (
 I.fa 158 0 v0 fun v15 =>
 I.load 3 H6 v15 fun v16 =>
 I.conv 3 5 v16 H6 fun v17 H18 =>
 I.fa 158 1 v0 fun v19 =>
 I.load 3 H18 v19 fun v20 =>
 I.conv 3 5 v20 H18 fun v21 H22 =>
 I.conv 22 5 a1 H22 fun v23 H24 =>
 I.bin .shr 22 true a1 (.int .u64 8) fun v25 =>
 I.conv 22 5 v25 H24 fun v26 H27 =>
 I.bin .shr 22 true a1 (.int .u64 16) fun v28 =>
 I.conv 22 5 v28 H27 fun v29 H30 =>
 I.bin .shr 22 true a1 (.int .u64 24) fun v31 =>
 I.conv 22 5 v31 H30 fun v32 H33 =>
 I.build 269 [(0, v17), (1, v21), (2, v23), (3, v26), (4, v29), (5, v32)] fun v34 =>
 I.alloc 269 H33 fun v35 H36 =>
 I.store n0 269 H36 v35 v34 fun H37 f38 => (fun e39 =>
 I.fa 158 0 v0 fun v40 =>
 I.load 3 H37 v40 fun v41 =>
 I.join (fun L42 H43 e44 =>
 I.load 269 H43 (lookQ L42 6) fun v45 =>
 I.store n0 269 H43 (lookQ L42 4) v45 fun H46 f47 => (fun e48 =>
 I.load 269 H46 (lookQ L42 4) fun v49 =>
 I.fin n0 H46 e48 [v49, (.int .i64 0)] k) (escQ f47 e44)) fun j50 =>
 I.bin .eql 3 true v41 (.int .i64 1) fun v51 =>
 I.cond v51 (
 I.slice 269 H37 v35 (some (.int .i64 6)) none fun v52 =>
 I.fa 158 2 v0 fun v53 =>
 I.slice 40 H37 v53 none none fun v54 =>
 I.blt true .copy #[65, 65] n0 [v52, v54] H37 fun v55 H56 f57 => (fun e58 =>
 j50 [(0, a0), (1, a1), (2, v0), (4, v2), (5, (.int .i64 0)), (6, v35), (7, .bad), (8, .bad), (11, v9), (32, v41), (33, v51), (39, .bad), (63, .bad), (66, .bad), (67, .bad), (68, .bad)] H56 e58) (escQ f57 e39)) (
 I.bin .eql 3 true v41 (.int .i64 2) fun v59 =>
 I.cond v59 (
 I.fa 158 3 v0 fun v60 =>
 I.load 3 H37 v60 fun v61 =>
 I.conv 3 5 v61 H37 fun v62 H63 =>
 I.fa 158 4 v0 fun v64 =>
 I.load 65 H63 v64 fun v65 =>
 I.len v65 fun v66 =>
 I.conv 3 5 v66 H63 fun v67 H68 =>
 I.ia 269 v35 (.int .i64 6) fun v69 =>
 I.store n0 5 H68 v69 v62 fun H70 f71 => (fun e72 =>
 I.ia 269 v35 (.int .i64 7) fun v73 =>
 I.store n0 5 H70 v73 v67 fun H74 f75 => (fun e76 =>
 I.slice 269 H74 v35 (some (.int .i64 8)) none fun v77 =>
 I.fa 158 4 v0 fun v78 =>
 I.load 65 H74 v78 fun v79 =>
 I.blt true .copy #[65, 65] n0 [v77, v79] H74 fun v80 H81 f82 => (fun e83 =>
 I.fa 158 5 v0 fun v84 =>
 I.load 3 H81 v84 fun v85 =>
 I.conv 3 5 v85 H81 fun v86 H87 =>
 I.fa 158 5 v0 fun v88 =>
 I.load 3 H87 v88 fun v89 =>
 I.bin .shr 3 true v89 (.int .u64 8) fun v90 =>
 I.conv 3 5 v90 H87 fun v91 H92 =>
 I.ia 269 v35 (.int .i64 24) fun v93 =>
 I.store n0 5 H92 v93 v86 fun H94 f95 => (fun e96 =>
 I.ia 269 v35 (.int .i64 25) fun v97 =>
 I.store n0 5 H94 v97 v91 fun H98 f99 => (fun e100 =>
 j50 [(0, a0), (1, a1), (2, v0), (4, v2), (5, (.int .i64 0)), (6, v35), (7, .bad), (8, .bad), (11, v9), (32, v41), (33, v51), (39, v59), (63, .bad), (66, .bad), (67, .bad), (68, .bad)] H98 e100) (escQ f99 e96)) (escQ f95 e83)) (escQ f82 e76)) (escQ f75 e72)) (escQ f71 e39)) (
 I.bin .eql 3 true v41 (.int .i64 3) fun v101 =>
 I.cond v101 (
 I.fa 158 6 v0 fun v102 =>
 I.load 25 H37 v102 fun v103 =>
 I.head n0 221360928884514619472 [(0, a0), (1, a1), (2, v0), (4, v2), (5, (.int .i64 0)), (6, v35), (7, .bad), (8, .bad), (11, v9), (32, v41), (33, v51), (39, v59), (63, v101), (66, v103), (67, (.int .i64 0)), (68, .bad)] H37 e39 fun L104 H105 => loopM I n0 221360928884514619472 (fun L106 H107 e108 k109 =>
 I.bin .lss 3 true (lookQ L106 67) (.int .i64 8) fun v110 =>
 I.cond v110 (
 I.idx 25 (lookQ L106 66) (lookQ L106 67) fun v111 =>
 I.bin .mul 3 true (.int .i64 2) (lookQ L106 67) fun v112 =>
 I.bin .add 3 true (.int .i64 6) v112 fun v113 =>
 I.bin .mul 3 true (.int .i64 2) (lookQ L106 67) fun v114 =>
 I.bin .add 3 true (.int .i64 6) v114 fun v115 =>
 I.bin .add 3 true v115 (.int .i64 1) fun v116 =>
 I.conv 3 5 v111 H107 fun v117 H118 =>
 I.bin .shr 3 true v111 (.int .u64 8) fun v119 =>
 I.conv 3 5 v119 H118 fun v120 H121 =>
 I.ia 269 (lookQ L106 6) v113 fun v122 =>
 I.store n0 5 H121 v122 v117 fun H123 f124 => (fun e125 =>
 I.ia 269 (lookQ L106 6) v116 fun v126 =>
 I.store n0 5 H123 v126 v120 fun H127 f128 => (fun e129 =>
 I.bin .add 3 true (lookQ L106 67) (.int .i64 1) fun v130 =>
 k109 .normal [(0, (lookQ L106 0)), (1, (lookQ L106 1)), (2, (lookQ L106 2)), (4, (lookQ L106 4)), (5, (lookQ L106 5)), (6, (lookQ L106 6)), (7, (lookQ L106 67)), (8, v111), (11, (lookQ L106 11)), (32, (lookQ L106 32)), (33, (lookQ L106 33)), (39, (lookQ L106 39)), (63, (lookQ L106 63)), (66, (lookQ L106 66)), (67, v130), (68, v110)] H127 e129) (escQ f128 e125)) (escQ f124 e108)) (
 k109 (.exit 1) [(0, (lookQ L106 0)), (1, (lookQ L106 1)), (2, (lookQ L106 2)), (4, (lookQ L106 4)), (5, (lookQ L106 5)), (6, (lookQ L106 6)), (7, (lookQ L106 7)), (8, (lookQ L106 8)), (11, (lookQ L106 11)), (32, (lookQ L106 32)), (33, (lookQ L106 33)), (39, (lookQ L106 39)), (63, (lookQ L106 63)), (66, (lookQ L106 66)), (67, (lookQ L106 67)), (68, v110)] H107 e108)) fuel L104 H105 e39 (selK I.bot [(1, (fun L131 H132 e133 =>
 j50 [(0, (lookQ L131 0)), (1, (lookQ L131 1)), (2, (lookQ L131 2)), (4, (lookQ L131 4)), (5, (lookQ L131 5)), (6, (lookQ L131 6)), (7, (lookQ L131 7)), (8, (lookQ L131 8)), (11, (lookQ L131 11)), (32, (lookQ L131 32)), (33, (lookQ L131 33)), (39, (lookQ L131 39)), (63, (lookQ L131 63)), (66, (lookQ L131 66)), (67, (lookQ L131 67)), (68, (lookQ L131 68))] H132 e133))] (fun _ _ _ => I.bot))) (
 j50 [(0, a0), (1, a1), (2, v0), (4, v2), (5, (.int .i64 0)), (6, v35), (7, .bad), (8, .bad), (11, v9), (32, v41), (33, v51), (39, v59), (63, v101), (66, .bad), (67, .bad), (68, .bad)] H37 e39)))) (escQ f38 e8))) (escQ f7 false)) (lenQ H)
  | _ => I.bot⟩
theorem ok248 (R : Type) : TxtOk Tryz.prog U ann 248 (r248 R) := fun I fuel KO KK args H k => match args with
  | [] => .inl rfl
  | [_] => .inl rfl
  | [a0, a1] => .inr (by kernel_rfl)
  | _ :: _ :: _ :: _ => .inl rfl
/-- silt/summary.Encode -/
noncomputable def r249 (R : Type) : Bx (Txt R) := ⟨fun I fuel KO KK args H k => match args with
  | [a0] => (fun n0 =>
 I.box a0 H fun v0 H1 =>
 I.alloc 269 H1 fun v2 H3 =>
 I.fa 290 2 v0 fun v4 =>
 I.load 288 H3 v4 fun v5 =>
 I.len v5 fun v6 =>
 I.bin .lss 3 true v6 (.int .i64 1) fun v7 =>
 I.gd v7 false (fun K8 => I.fa 290 2 v0 fun v12 =>
 K8 v12 H3 false) H3 false fun v9 H10 e11 =>
 I.gd v7 false (fun K13 => I.load 288 H10 v9 fun v17 =>
 K13 v17 H10 e11) H10 e11 fun v14 H15 e16 =>
 I.gd v7 false (fun K18 => I.len v14 fun v22 =>
 K18 v22 H15 e16) H15 e16 fun v19 H20 e21 =>
 I.gd v7 false (fun K23 => I.bin .gtr 3 true v19 (.int .i64 24) fun v27 =>
 K23 v27 H20 e21) H20 e21 fun v24 H25 e26 =>
 I.pick v7 (.bool true) v24 fun v28 =>
 I.cond v28 (
 I.build 269 [] fun v29 =>
 I.store n0 269 H25 v2 v29 fun H30 f31 => (fun e32 =>
 I.load 269 H30 v2 fun v33 =>
 I.fin n0 H30 e32 [v33, (.int .i64 11)] k) (escQ f31 e26)) (
 I.fa 290 0 v0 fun v34 =>
 I.load 22 H25 v34 fun v35 =>
 I.conv 22 5 v35 H25 fun v36 H37 =>
 I.fa 290 0 v0 fun v38 =>
 I.load 22 H37 v38 fun v39 =>
 I.bin .shr 22 true v39 (.int .u64 8) fun v40 =>
 I.conv 22 5 v40 H37 fun v41 H42 =>
 I.fa 290 0 v0 fun v43 =>
 I.load 22 H42 v43 fun v44 =>
 I.bin .shr 22 true v44 (.int .u64 16) fun v45 =>
 I.conv 22 5 v45 H42 fun v46 H47 =>
 I.fa 290 0 v0 fun v48 =>
 I.load 22 H47 v48 fun v49 =>
 I.bin .shr 22 true v49 (.int .u64 24) fun v50 =>
 I.conv 22 5 v50 H47 fun v51 H52 =>
 I.fa 290 2 v0 fun v53 =>
 I.load 288 H52 v53 fun v54 =>
 I.len v54 fun v55 =>
 I.conv 3 5 v55 H52 fun v56 H57 =>
 I.build 269 [(0, (.int .u8 83)), (1, (.int .u8 0)), (2, v36), (3, v41), (4, v46), (5, v51), (6, v56)] fun v58 =>
 I.alloc 269 H57 fun v59 H60 =>
 I.store n0 269 H60 v59 v58 fun H61 f62 => (fun e63 =>
 I.join (fun L64 H65 e66 =>
 I.fa 290 2 (lookQ L64 1) fun v67 =>
 I.load 288 H65 v67 fun v68 =>
 I.len v68 fun v69 =>
 I.head n0 30786325577748 [(0, (lookQ L64 0)), (1, (lookQ L64 1)), (2, (lookQ L64 2)), (3, (lookQ L64 3)), (4, (lookQ L64 4)), (5, (lookQ L64 5)), (6, (lookQ L64 6)), (16, (lookQ L64 16)), (39, (lookQ L64 39)), (42, v68), (43, v69), (44, (.int .i64 0)), (45, (lookQ L64 45)), (51, (lookQ L64 51))] H65 e66 fun L70 H71 => loopM I n0 30786325577748 (fun L72 H73 e74 k75 =>
 I.bin .lss 3 false (lookQ L72 44) (lookQ L72 43) fun v76 =>
 I.cond v76 (
 I.ia 288 (lookQ L72 42) (lookQ L72 44) fun v77 =>
 I.load 156 H73 v77 fun v78 =>
 I.alloc 156 H73 fun v79 H80 =>
 I.store n0 156 H80 v79 v78 fun H81 f82 => (fun e83 =>
 I.load 156 H81 v79 fun v84 =>
 KK 291 [v84] H81 fun v85 H86 f87 => (fun e88 =>
 I.un .not v85 fun v89 =>
 I.cond v89 (
 I.build 269 [] fun v90 =>
 I.store n0 269 H86 (lookQ L72 2) v90 fun H91 f92 => (fun e93 =>
 k75 .ret [(0, (lookQ L72 0)), (1, (lookQ L72 1)), (2, (lookQ L72 2)), (3, (.int .i64 11)), (4, (lookQ L72 4)), (5, (lookQ L72 44)), (6, v79), (16, (lookQ L72 16)), (39, (lookQ L72 39)), (42, (lookQ L72 42)), (43, (lookQ L72 43)), (44, (lookQ L72 44)), (45, v76), (51, v89)] H91 e93) (escQ f92 e88)) (
 I.bin .mul 3 true (.int .i64 2) (lookQ L72 44) fun v94 =>
 I.bin .add 3 true (.int .i64 7) v94 fun v95 =>
 I.bin .mul 3 true (.int .i64 2) (lookQ L72 44) fun v96 =>
 I.bin .add 3 true (.int .i64 7) v96 fun v97 =>
 I.bin .add 3 true v97 (.int .i64 1) fun v98 =>
 I.fa 156 0 v79 fun v99 =>
 I.load 3 H86 v99 fun v100 =>
 I.conv 3 5 v100 H86 fun v101 H102 =>
 I.fa 156 1 v79 fun v103 =>
 I.load 3 H102 v103 fun v104 =>
 I.conv 3 5 v104 H102 fun v105 H106 =>
 I.ia 269 (lookQ L72 4) v95 fun v107 =>
 I.store n0 5 H106 v107 v101 fun H108 f109 => (fun e110 =>
 I.ia 269 (lookQ L72 4) v98 fun v111 =>
 I.store n0 5 H108 v111 v105 fun H112 f113 => (fun e114 =>
 I.load 3 H108 v103 fun v115 =>
 I.same v115 v104 (
 I.conv 3 5 v104 H108 fun v116 H117 =>
 I.same v116 v105 (
 I.bin .add 3 true (lookQ L72 44) (.int .i64 1) fun v118 =>
 k75 .normal [(0, (lookQ L72 0)), (1, (lookQ L72 1)), (2, (lookQ L72 2)), (3, (lookQ L72 3)), (4, (lookQ L72 4)), (5, (lookQ L72 44)), (6, v79), (16, (lookQ L72 16)), (39, (lookQ L72 39)), (42, (lookQ L72 42)), (43, (lookQ L72 43)), (44, v118), (45, v76), (51, v89)] H112 e114))) (escQ f113 e110)) (escQ f109 e88))) (escQ f87 e83)) (escQ f82 e74)) (
 k75 (.exit 0) [(0, (lookQ L72 0)), (1, (lookQ L72 1)), (2, (lookQ L72 2)), (3, (lookQ L72 3)), (4, (lookQ L72 4)), (5, (lookQ L72 5)), (6, (lookQ L72 6)), (16, (lookQ L72 16)), (39, (lookQ L72 39)), (42, (lookQ L72 42)), (43, (lookQ L72 43)), (44, (lookQ L72 44)), (45, v76), (51, (lookQ L72 51))] H73 e74)) fuel L70 H71 e66 (selK I.bot [(0, (fun L119 H120 e121 =>
 I.load 269 H120 (lookQ L119 4) fun v122 =>
 I.store n0 269 H120 (lookQ L119 2) v122 fun H123 f124 => (fun e125 =>
 I.load 269 H123 (lookQ L119 2) fun v126 =>
 I.fin n0 H123 e125 [v126, (.int .i64 0)] k) (escQ f124 e121)))] (fun L127 H128 e129 =>
 I.load 269 H128 (lookQ L127 2) fun v130 =>
 I.fin n0 H128 e129 [v130, (lookQ L127 3)] k))) fun j131 =>
 I.fa 290 1 v0 fun v132 =>
 I.load 4 H61 v132 fun v133 =>
 I.cond v133 (
 I.ia 269 v59 (.int .i64 1) fun v134 =>
 I.store n0 5 H61 v134 (.int .u8 1) fun H135 f136 => (fun e137 =>
 j131 [(0, a0), (1, v0), (2, v2), (3, (.int .i64 0)), (4, v59), (5, .bad), (6, .bad), (16, v28), (39, v133), (42, .bad), (43, .bad), (44, .bad), (45, .bad), (51, .bad)] H135 e137) (escQ f136 e63)) (
 j131 [(0, a0), (1, v0), (2, v2), (3, (.int .i64 0)), (4, v59), (5, .bad), (6, .bad), (16, v28), (39, v133), (42, .bad), (43, .bad), (44, .bad), (45, .bad), (51, .bad)] H61 e63)) (escQ f62 e26))) (lenQ H)
  | _ => I.bot⟩
theorem ok249 (R : Type) : TxtOk Tryz.prog U ann 249 (r249 R) := fun I fuel KO KK args H k => match args with
  | [] => .inl rfl
  | [a0] => .inr (by kernel_rfl)
  | _ :: _ :: _ => .inl rfl
/-- silt/mappage.number -/
noncomputable def r250 (R : Type) : Bx (Txt R) := ⟨fun I fuel KO KK args H k => match args with
  | [a0] => (fun n0 =>
 I.alloc 33 H fun v0 H1 =>
 I.mkI 263 v0 fun v2 =>
 KK 161 [a0, v2] H1 fun v3 H4 f5 => (fun e6 =>
 I.cond v3 (
 I.load 33 H4 v0 fun v7 =>
 I.fin n0 H4 e6 [v7] k) (
 I.fin n0 H4 e6 [(.int .i64 0)] k)) (escQ f5 false)) (lenQ H)
  | _ => I.bot⟩
theorem ok250 (R : Type) : TxtOk Tryz.prog U ann 250 (r250 R) := fun I fuel KO KK args H k => match args with
  | [] => .inl rfl
  | [a0] => .inr (by kernel_rfl)
  | _ :: _ :: _ => .inl rfl
/-- silt/mappage.wrong -/
noncomputable def r251 (R : Type) : Bx (Txt R) := ⟨fun I fuel KO KK args H k => match args with
  | [a0, a1] => (fun n0 =>
 I.box a0 H fun v0 H1 =>
 I.load 24 H1 v0 fun v2 =>
 KK 73 [v2] H1 fun v3 H4 f5 => (fun e6 =>
 I.un .not v3 fun v7 =>
 I.gd v7 false (fun K8 => K8 a1 H4 e6) H4 e6 fun v9 H10 e11 =>
 I.gd v7 false (fun K12 => I.len v9 fun v16 =>
 K12 v16 H10 e11) H10 e11 fun v13 H14 e15 =>
 I.gd v7 false (fun K17 => I.fa 24 0 v0 fun v21 =>
 K17 v21 H14 e15) H14 e15 fun v18 H19 e20 =>
 I.gd v7 false (fun K22 => I.load 3 H19 v18 fun v26 =>
 K22 v26 H19 e20) H19 e20 fun v23 H24 e25 =>
 I.gd v7 false (fun K27 => I.bin .neq 3 false v13 v23 fun v31 =>
 K27 v31 H24 e25) H24 e25 fun v28 H29 e30 =>
 I.pick v7 (.bool true) v28 fun v32 =>
 I.cond v32 (
 KK 153 [(.int .i64 1), (.str ⟨#[103, 101, 111, 109, 101, 116, 114, 121]⟩)] H29 fun v33 H34 f35 => (fun e36 =>
 I.fin n0 H34 e36 [v33] k) (escQ f35 e30)) (
 KK 252 [a1] H29 fun v37 H38 f39 => (fun e40 =>
 I.len v37 fun v41 =>
 I.head n0 3670016 [(0, a0), (1, a1), (2, v0), (4, .nili), (5, .bad), (6, .bad), (16, v32), (19, v37), (20, v41), (21, (.int .i64 0)), (22, .bad), (28, .bad)] H38 e40 fun L42 H43 => loopM I n0 3670016 (fun L44 H45 e46 k47 =>
 I.bin .lss 3 false (lookQ L44 21) (lookQ L44 20) fun v48 =>
 I.cond v48 (
 I.ia 264 (lookQ L44 19) (lookQ L44 21) fun v49 =>
 I.load 158 H45 v49 fun v50 =>
 I.alloc 158 H45 fun v51 H52 =>
 I.store n0 158 H52 v51 v50 fun H53 f54 => (fun e55 =>
 I.load 158 H53 v51 fun v56 =>
 KK 181 [v56] H53 fun v57 H58 f59 => (fun e60 =>
 I.un .not v57 fun v61 =>
 I.cond v61 (
 I.bot) (
 I.bin .add 3 true (lookQ L44 21) (.int .i64 1) fun v62 =>
 k47 .normal [(0, (lookQ L44 0)), (1, (lookQ L44 1)), (2, (lookQ L44 2)), (4, (lookQ L44 4)), (5, (lookQ L44 21)), (6, v51), (16, (lookQ L44 16)), (19, (lookQ L44 19)), (20, (lookQ L44 20)), (21, v62), (22, v48), (28, v61)] H58 e60)) (escQ f59 e55)) (escQ f54 e46)) (
 k47 (.exit 0) [(0, (lookQ L44 0)), (1, (lookQ L44 1)), (2, (lookQ L44 2)), (4, (lookQ L44 4)), (5, (lookQ L44 5)), (6, (lookQ L44 6)), (16, (lookQ L44 16)), (19, (lookQ L44 19)), (20, (lookQ L44 20)), (21, (lookQ L44 21)), (22, v48), (28, (lookQ L44 28))] H45 e46)) fuel L42 H43 e40 (selK I.bot [(0, (fun L63 H64 e65 =>
 I.fin n0 H64 e65 [.nili] k))] (fun L66 H67 e68 =>
 I.fin n0 H67 e68 [(lookQ L66 4)] k))) (escQ f39 e30))) (escQ f5 false)) (lenQ H)
  | _ => I.bot⟩
theorem ok251 (R : Type) : TxtOk Tryz.prog U ann 251 (r251 R) := fun I fuel KO KK args H k => match args with
  | [] => .inl rfl
  | [_] => .inl rfl
  | [a0, a1] => .inr (by kernel_rfl)
  | _ :: _ :: _ :: _ => .inl rfl
/-- silt/mappage.cut -/
noncomputable def r252 (R : Type) : Bx (Txt R) := ⟨fun I fuel KO KK args H k => match args with
  | [a0] => (fun n0 =>
 I.head n0 25 [(0, a0), (2, .nils), (3, .nils), (4, (.int .i64 0)), (5, .bad), (9, .bad)] H false fun L0 H1 => loopM I n0 25 (fun L2 H3 e4 k5 =>
 I.len (lookQ L2 0) fun v6 =>
 I.bin .lss 3 false (lookQ L2 4) v6 fun v7 =>
 I.cond v7 (
 I.bin .quo 3 true (lookQ L2 4) (.int .i64 8) fun v8 =>
 I.build 158 [(0, (.int .i64 3)), (1, v8)] fun v9 =>
 I.alloc 158 H3 fun v10 H11 =>
 I.store n0 158 H11 v10 v9 fun H12 f13 => (fun e14 =>
 I.fa 158 6 v10 fun v15 =>
 I.slice 25 H12 v15 none none fun v16 =>
 I.slice 28 H12 (lookQ L2 0) (some (lookQ L2 4)) none fun v17 =>
 I.blt true .copy #[28, 28] n0 [v16, v17] H12 fun v18 H19 f20 => (fun e21 =>
 I.load 158 H19 v10 fun v22 =>
 I.bslice 264 1 [(0, v22)] H19 fun v23 H24 =>
 I.blt true .append #[264, 264] n0 [(lookQ L2 3), v23] H24 fun v25 H26 f27 => (fun e28 =>
 I.bin .add 3 true (lookQ L2 4) (.int .i64 8) fun v29 =>
 k5 .normal [(0, (lookQ L2 0)), (2, (lookQ L2 2)), (3, v25), (4, v29), (5, v10), (9, v7)] H26 e28) (escQ f27 e21)) (escQ f20 e14)) (escQ f13 e4)) (
 k5 (.exit 0) [(0, (lookQ L2 0)), (2, (lookQ L2 2)), (3, (lookQ L2 3)), (4, (lookQ L2 4)), (5, (lookQ L2 5)), (9, v7)] H3 e4)) fuel L0 H1 false (selK I.bot [(0, (fun L30 H31 e32 =>
 I.fin n0 H31 e32 [(lookQ L30 3)] k))] (fun _ _ _ => I.bot))) (lenQ H)
  | _ => I.bot⟩
theorem ok252 (R : Type) : TxtOk Tryz.prog U ann 252 (r252 R) := fun I fuel KO KK args H k => match args with
  | [] => .inl rfl
  | [a0] => .inr (by kernel_rfl)
  | _ :: _ :: _ => .inl rfl
/-- slices.Compact[[]int,int] -/
noncomputable def r253 (R : Type) : Bx (Txt R) := ⟨fun I fuel KO KK args H k => match args with
  | [a0] => (fun n0 =>
 I.len a0 fun v0 =>
 I.bin .lss 3 true v0 (.int .i64 2) fun v1 =>
 I.cond v1 (
 I.fin n0 H false [a0] k) (
 I.head n0 9 [(0, a0), (2, .nils), (3, (.int .i64 1)), (4, .bad), (5, .bad), (8, v1), (13, .bad), (25, .bad), (32, .bad), (44, .bad)] H false fun L2 H3 => loopM I n0 9 (fun L4 H5 e6 k7 =>
 I.len (lookQ L4 0) fun v8 =>
 I.bin .lss 3 false (lookQ L4 3) v8 fun v9 =>
 I.cond v9 (
 I.ia 28 (lookQ L4 0) (lookQ L4 3) fun v10 =>
 I.load 3 H5 v10 fun v11 =>
 I.bin .sub 3 true (lookQ L4 3) (.int .i64 1) fun v12 =>
 I.ia 28 (lookQ L4 0) v12 fun v13 =>
 I.load 3 H5 v13 fun v14 =>
 I.bin .eql 3 false v11 v14 fun v15 =>
 I.cond v15 (
 I.slice 28 H5 (lookQ L4 0) (some (lookQ L4 3)) none fun v16 =>
 I.head n0 57 [(0, (lookQ L4 0)), (2, (lookQ L4 2)), (3, (lookQ L4 3)), (4, v16), (5, (.int .i64 1)), (8, (lookQ L4 8)), (13, v9), (25, v15), (32, (lookQ L4 32)), (44, (lookQ L4 44))] H5 e6 fun L17 H18 => loopM I n0 57 (fun L19 H20 e21 k22 =>
 I.len (lookQ L19 4) fun v23 =>
 I.bin .lss 3 false (lookQ L19 5) v23 fun v24 =>
 I.cond v24 (
 I.join (fun L25 H26 e27 =>
 I.bin .add 3 true (lookQ L25 5) (.int .i64 1) fun v28 =>
 k22 .normal [(0, (lookQ L25 0)), (2, (lookQ L25 2)), (3, (lookQ L25 3)), (4, (lookQ L25 4)), (5, v28), (8, (lookQ L25 8)), (13, (lookQ L25 13)), (25, (lookQ L25 25)), (32, (lookQ L25 32)), (44, (lookQ L25 44))] H26 e27) fun j29 =>
 I.ia 28 (lookQ L19 4) (lookQ L19 5) fun v30 =>
 I.load 3 H20 v30 fun v31 =>
 I.bin .sub 3 true (lookQ L19 5) (.int .i64 1) fun v32 =>
 I.ia 28 (lookQ L19 4) v32 fun v33 =>
 I.load 3 H20 v33 fun v34 =>
 I.bin .neq 3 false v31 v34 fun v35 =>
 I.cond v35 (
 I.ia 28 (lookQ L19 4) (lookQ L19 5) fun v36 =>
 I.load 3 H20 v36 fun v37 =>
 I.ia 28 (lookQ L19 0) (lookQ L19 3) fun v38 =>
 I.store n0 3 H20 v38 v37 fun H39 f40 => (fun e41 =>
 I.bin .add 3 true (lookQ L19 3) (.int .i64 1) fun v42 =>
 j29 [(0, (lookQ L19 0)), (2, (lookQ L19 2)), (3, v42), (4, (lookQ L19 4)), (5, (lookQ L19 5)), (8, (lookQ L19 8)), (13, (lookQ L19 13)), (25, (lookQ L19 25)), (32, v24), (44, v35)] H39 e41) (escQ f40 e21)) (
 j29 [(0, (lookQ L19 0)), (2, (lookQ L19 2)), (3, (lookQ L19 3)), (4, (lookQ L19 4)), (5, (lookQ L19 5)), (8, (lookQ L19 8)), (13, (lookQ L19 13)), (25, (lookQ L19 25)), (32, v24), (44, v35)] H20 e21)) (
 k22 (.exit 2) [(0, (lookQ L19 0)), (2, (lookQ L19 2)), (3, (lookQ L19 3)), (4, (lookQ L19 4)), (5, (lookQ L19 5)), (8, (lookQ L19 8)), (13, (lookQ L19 13)), (25, (lookQ L19 25)), (32, v24), (44, (lookQ L19 44))] H20 e21)) fuel L17 H18 e6 (selK I.bot [(2, (fun L43 H44 e45 =>
 I.slice 28 H44 (lookQ L43 0) (some (lookQ L43 3)) none fun v46 =>
 I.blt true .clear #[28] n0 [v46] H44 fun v47 H48 f49 => (fun e50 =>
 I.slice 28 H48 (lookQ L43 0) none (some (lookQ L43 3)) fun v51 =>
 k7 .ret [(0, (lookQ L43 0)), (2, v51), (3, (lookQ L43 3)), (4, (lookQ L43 4)), (5, (lookQ L43 5)), (8, (lookQ L43 8)), (13, (lookQ L43 13)), (25, (lookQ L43 25)), (32, (lookQ L43 32)), (44, (lookQ L43 44))] H48 e50) (escQ f49 e45)))] (fun _ _ _ => I.bot))) (
 I.bin .add 3 true (lookQ L4 3) (.int .i64 1) fun v52 =>
 k7 .normal [(0, (lookQ L4 0)), (2, (lookQ L4 2)), (3, v52), (4, (lookQ L4 4)), (5, (lookQ L4 5)), (8, (lookQ L4 8)), (13, v9), (25, v15), (32, (lookQ L4 32)), (44, (lookQ L4 44))] H5 e6)) (
 k7 (.exit 0) [(0, (lookQ L4 0)), (2, (lookQ L4 2)), (3, (lookQ L4 3)), (4, (lookQ L4 4)), (5, (lookQ L4 5)), (8, (lookQ L4 8)), (13, v9), (25, (lookQ L4 25)), (32, (lookQ L4 32)), (44, (lookQ L4 44))] H5 e6)) fuel L2 H3 false (selK I.bot [(0, (fun L53 H54 e55 =>
 I.fin n0 H54 e55 [(lookQ L53 0)] k)), (2, (fun L56 H57 e58 =>
 I.bot))] (fun L59 H60 e61 =>
 I.fin n0 H60 e61 [(lookQ L59 2)] k)))) (lenQ H)
  | _ => I.bot⟩
theorem ok253 (R : Type) : TxtOk Tryz.prog U ann 253 (r253 R) := fun I fuel KO KK args H k => match args with
  | [] => .inl rfl
  | [a0] => .inr (by kernel_rfl)
  | _ :: _ :: _ => .inl rfl
/-- (*silt/core.Core).does -/
noncomputable def r254 (R : Type) : Bx (Txt R) := ⟨fun I fuel KO KK args H k => match args with
  | [a0, a1] => (fun n0 =>
 I.join (fun L0 H1 e2 =>
 I.fin n0 H1 e2 [(lookQ L0 1)] k) fun j3 =>
 I.bin .eql 33 true a1 (.int .i64 12) fun v4 =>
 I.cond v4 (
 I.nil a0 fun v5 =>
 I.fa 173 4 v5 fun v6 =>
 I.store n0 4 H v6 (.bool true) fun H7 f8 => (fun e9 =>
 j3 [(0, a0), (1, a1), (4, (.int .i64 0)), (6, v4)] H7 e9) (escQ f8 false)) (
 j3 [(0, a0), (1, a1), (4, (.int .i64 0)), (6, v4)] H false)) (lenQ H)
  | _ => I.bot⟩
theorem ok254 (R : Type) : TxtOk Tryz.prog U ann 254 (r254 R) := fun I fuel KO KK args H k => match args with
  | [] => .inl rfl
  | [_] => .inl rfl
  | [a0, a1] => .inr (by kernel_rfl)
  | _ :: _ :: _ :: _ => .inl rfl
/-- (*silt/journal.Journal).SetFree -/
noncomputable def r255 (R : Type) : Bx (Txt R) := ⟨fun I fuel KO KK args H k => match args with
  | [a0, a1] => (fun n0 =>
 I.bin .eql 150 true a0 .nilp fun v0 =>
 I.cond v0 (
 I.fin n0 H false [] k) (
 I.nil a0 fun v1 =>
 I.fa 276 2 v1 fun v2 =>
 I.load 30 H v2 fun v3 =>
 I.alloc 30 H fun v4 H5 =>
 I.store n0 30 H5 v4 v3 fun H6 f7 => (fun e8 =>
 KK 97 [a1] H6 fun v9 H10 f11 => (fun e12 =>
 I.fa 30 3 v4 fun v13 =>
 I.store n0 28 H10 v13 v9 fun H14 f15 => (fun e16 =>
 I.nil a0 fun v17 =>
 I.fa 276 1 v17 fun v18 =>
 I.load 24 H14 v18 fun v19 =>
 I.load 30 H14 v4 fun v20 =>
 KK 168 [v19, v20] H14 fun v21 H22 f23 => (fun e24 =>
 I.cond v21 (
 I.load 30 H22 v4 fun v25 =>
 I.nil a0 fun v26 =>
 I.fa 276 2 v26 fun v27 =>
 I.store n0 30 H22 v27 v25 fun H28 f29 => (fun e30 =>
 I.fin n0 H28 e30 [] k) (escQ f29 e24)) (
 I.fin n0 H22 e24 [] k)) (escQ f23 e16)) (escQ f15 e12)) (escQ f11 e8)) (escQ f7 false))) (lenQ H)
  | _ => I.bot⟩
theorem ok255 (R : Type) : TxtOk Tryz.prog U ann 255 (r255 R) := fun I fuel KO KK args H k => match args with
  | [] => .inl rfl
  | [_] => .inl rfl
  | [a0, a1] => .inr (by kernel_rfl)
  | _ :: _ :: _ :: _ => .inl rfl
/-- silt/block.plain -/
noncomputable def r258 (R : Type) : Bx (Txt R) := ⟨fun I fuel KO KK args H k => match args with
  | [a0] => (fun n0 =>
 I.box a0 H fun v0 H1 =>
 I.fa 158 2 v0 fun v2 =>
 I.load 40 H1 v2 fun v3 =>
 I.build 40 [] fun v4 =>
 I.bin .eql 40 false v3 v4 fun v5 =>
 I.fa 158 6 v0 fun v6 =>
 I.load 25 H1 v6 fun v7 =>
 I.build 25 [] fun v8 =>
 I.bin .eql 25 false v7 v8 fun v9 =>
 I.fa 158 3 v0 fun v10 =>
 I.load 3 H1 v10 fun v11 =>
 I.bin .eql 3 true v11 (.int .i64 0) fun v12 =>
 I.gd v12 true (fun K13 => I.fa 158 4 v0 fun v17 =>
 K13 v17 H1 false) H1 false fun v14 H15 e16 =>
 I.gd v12 true (fun K18 => I.load 65 H15 v14 fun v22 =>
 K18 v22 H15 e16) H15 e16 fun v19 H20 e21 =>
 I.gd v12 true (fun K23 => I.len v19 fun v27 =>
 K23 v27 H20 e21) H20 e21 fun v24 H25 e26 =>
 I.gd v12 true (fun K28 => I.bin .eql 3 true v24 (.int .i64 0) fun v32 =>
 K28 v32 H25 e26) H25 e26 fun v29 H30 e31 =>
 I.pick v12 v29 (.bool false) fun v33 =>
 I.gd v33 true (fun K34 => I.fa 158 5 v0 fun v38 =>
 K34 v38 H30 e31) H30 e31 fun v35 H36 e37 =>
 I.gd v33 true (fun K39 => I.load 3 H36 v35 fun v43 =>
 K39 v43 H36 e37) H36 e37 fun v40 H41 e42 =>
 I.gd v33 true (fun K44 => I.bin .eql 3 true v40 (.int .i64 0) fun v48 =>
 K44 v48 H41 e42) H41 e42 fun v45 H46 e47 =>
 I.pick v33 v45 (.bool false) fun v49 =>
 I.fa 158 0 v0 fun v50 =>
 I.load 3 H46 v50 fun v51 =>
 I.bin .eql 3 true v51 (.int .i64 1) fun v52 =>
 I.cond v52 (
 I.gd v9 true (fun K53 => K53 v49 H46 e47) H46 e47 fun v54 H55 e56 =>
 I.pick v9 v54 (.bool false) fun v57 =>
 I.fin n0 H55 e56 [v57] k) (
 I.bin .eql 3 true v51 (.int .i64 2) fun v58 =>
 I.cond v58 (
 I.gd v9 true (fun K59 => K59 v5 H46 e47) H46 e47 fun v60 H61 e62 =>
 I.pick v9 v60 (.bool false) fun v63 =>
 I.fin n0 H61 e62 [v63] k) (
 I.gd v5 true (fun K64 => K64 v49 H46 e47) H46 e47 fun v65 H66 e67 =>
 I.pick v5 v65 (.bool false) fun v68 =>
 I.fin n0 H66 e67 [v68] k))) (lenQ H)
  | _ => I.bot⟩
theorem ok258 (R : Type) : TxtOk Tryz.prog U ann 258 (r258 R) := fun I fuel KO KK args H k => match args with
  | [] => .inl rfl
  | [a0] => .inr (by kernel_rfl)
  | _ :: _ :: _ => .inl rfl
/-- silt/block.head -/
noncomputable def r259 (R : Type) : Bx (Txt R) := ⟨fun I fuel KO KK args H k => match args with
  | [a0] => (fun n0 =>
 I.join (fun L0 H1 e2 =>
 I.bin .geq 3 true (lookQ L0 0) (.int .i64 4) fun v3 =>
 I.gd v3 true (fun K4 => K4 (lookQ L0 0) H1 e2) H1 e2 fun v5 H6 e7 =>
 I.gd v3 true (fun K8 => I.bin .leq 3 true v5 (.int .i64 1023) fun v12 =>
 K8 v12 H6 e7) H6 e7 fun v9 H10 e11 =>
 I.pick v3 v9 (.bool false) fun v13 =>
 I.fin n0 H10 e11 [v13] k) fun j14 =>
 I.join (fun L15 H16 e17 =>
 I.fin n0 H16 e17 [(.bool true)] k) fun j18 =>
 I.bin .eql 3 true a0 (.int .i64 0) fun v19 =>
 I.cond v19 (
 j18 [(0, a0), (2, (.bool false)), (3, v19), (6, .bad)] H false) (
 I.bin .eql 3 true a0 (.int .i64 1) fun v20 =>
 I.cond v20 (
 j18 [(0, a0), (2, (.bool false)), (3, v19), (6, v20)] H false) (
 j14 [(0, a0), (2, (.bool false)), (3, v19), (6, v20)] H false))) (lenQ H)
  | _ => I.bot⟩
theorem ok259 (R : Type) : TxtOk Tryz.prog U ann 259 (r259 R) := fun I fuel KO KK args H k => match args with
  | [] => .inl rfl
  | [a0] => .inr (by kernel_rfl)
  | _ :: _ :: _ => .inl rfl
/-- silt/block.Good$1 -/
noncomputable def r260 (R : Type) : Bx (Txt R) := ⟨fun I fuel KO KK args H k => match args with
  | [a0] => (fun n0 =>
 KK 259 [a0] H fun v0 H1 f2 => (fun e3 =>
 I.un .not v0 fun v4 =>
 I.fin n0 H1 e3 [v4] k) (escQ f2 false)) (lenQ H)
  | _ => I.bot⟩
theorem ok260 (R : Type) : TxtOk Tryz.prog U ann 260 (r260 R) := fun I fuel KO KK args H k => match args with
  | [] => .inl rfl
  | [a0] => .inr (by kernel_rfl)
  | _ :: _ :: _ => .inl rfl
/-- silt/plan.part -/
noncomputable def r261 (R : Type) : Bx (Txt R) := ⟨fun I fuel KO KK args H k => match args with
  | [a0, a1] => (fun n0 =>
 I.box a0 H fun v0 H1 =>
 I.bin .lss 3 true a1 (.int .i64 4) fun v2 =>
 I.cond v2 (
 I.fin n0 H1 false [(.int .i64 0)] k) (
 I.load 24 H1 v0 fun v3 =>
 KK 75 [v3] H1 fun v4 H5 f6 => (fun e7 =>
 I.bin .geq 3 false a1 v4 fun v8 =>
 I.cond v8 (
 I.fin n0 H5 e7 [(.int .i64 2)] k) (
 I.fin n0 H5 e7 [(.int .i64 1)] k)) (escQ f6 false))) (lenQ H)
  | _ => I.bot⟩
theorem ok261 (R : Type) : TxtOk Tryz.prog U ann 261 (r261 R) := fun I fuel KO KK args H k => match args with
  | [] => .inl rfl
  | [_] => .inl rfl
  | [a0, a1] => .inr (by kernel_rfl)
  | _ :: _ :: _ :: _ => .inl rfl
/-- (*silt/clock.Clock).Put -/
noncomputable def r264 (R : Type) : Bx (Txt R) := ⟨fun I fuel KO KK args H k => match args with
  | [a0, a1, a2] => (fun n0 =>
 KK 191 [a0, a1] H fun v0 H1 f2 => (fun e3 =>
 KK 197 [a0, a2] H1 fun v4 H5 f6 => (fun e7 =>
 I.ext v4 0 fun v8 =>
 I.ext v4 1 fun v9 =>
 I.join (fun L10 H11 e12 =>
 I.nil (lookQ L10 7) fun v13 =>
 I.fa 320 0 v13 fun v14 =>
 I.store n0 3 H11 v14 (lookQ L10 2) fun H15 f16 => (fun e17 =>
 I.nil (lookQ L10 7) fun v18 =>
 I.fa 320 1 v18 fun v19 =>
 I.store n0 4 H15 v19 (.bool true) fun H20 f21 => (fun e22 =>
 I.fin n0 H20 e22 [(.bool true)] k) (escQ f21 e17)) (escQ f16 e12)) fun j23 =>
 I.join (fun L24 H25 e26 =>
 I.fin n0 H25 e26 [(.bool false)] k) fun j27 =>
 I.join (fun L28 H29 e30 =>
 j27 [(0, (lookQ L28 0)), (1, (lookQ L28 1)), (2, (lookQ L28 2)), (6, (lookQ L28 6)), (7, (lookQ L28 7)), (8, (lookQ L28 8)), (9, (lookQ L28 9)), (19, (lookQ L28 19)), (22, (lookQ L28 22)), (25, (lookQ L28 25)), (32, (lookQ L28 32))] H29 e30) fun j31 =>
 I.bin .eql 318 true v0 .nilp fun v32 =>
 I.cond v32 (
 j31 [(0, a0), (1, a1), (2, a2), (6, (.bool false)), (7, v0), (8, v8), (9, v9), (19, v32), (22, .bad), (25, .bad), (32, .bad)] H5 e7) (
 I.bin .lss 3 true a2 (.int .i64 0) fun v33 =>
 I.cond v33 (
 j31 [(0, a0), (1, a1), (2, a2), (6, (.bool false)), (7, v0), (8, v8), (9, v9), (19, v32), (22, v33), (25, .bad), (32, .bad)] H5 e7) (
 I.gd v9 true (fun K34 => K34 v8 H5 e7) H5 e7 fun v35 H36 e37 =>
 I.gd v9 true (fun K38 => K38 a1 H36 e37) H36 e37 fun v39 H40 e41 =>
 I.gd v9 true (fun K42 => I.bin .neq 3 false v35 v39 fun v46 =>
 K42 v46 H40 e41) H40 e41 fun v43 H44 e45 =>
 I.pick v9 v43 (.bool false) fun v47 =>
 I.cond v47 (
 j27 [(0, a0), (1, a1), (2, a2), (6, (.bool false)), (7, v0), (8, v8), (9, v9), (19, v32), (22, v33), (25, v47), (32, .bad)] H44 e45) (
 I.nil v0 fun v48 =>
 I.fa 320 2 v48 fun v49 =>
 I.load 3 H44 v49 fun v50 =>
 I.bin .gtr 3 true v50 (.int .i64 0) fun v51 =>
 I.cond v51 (
 I.fin n0 H44 e45 [(.bool false)] k) (
 j23 [(0, a0), (1, a1), (2, a2), (6, (.bool false)), (7, v0), (8, v8), (9, v9), (19, v32), (22, v33), (25, v47), (32, v51)] H44 e45))))) (escQ f6 e3)) (escQ f2 false)) (lenQ H)
  | _ => I.bot⟩
theorem ok264 (R : Type) : TxtOk Tryz.prog U ann 264 (r264 R) := fun I fuel KO KK args H k => match args with
  | [] => .inl rfl
  | [_] => .inl rfl
  | [_, _] => .inl rfl
  | [a0, a1, a2] => .inr (by kernel_rfl)
  | _ :: _ :: _ :: _ :: _ => .inl rfl
/-- silt/delta.fits -/
noncomputable def r265 (R : Type) : Bx (Txt R) := ⟨fun I fuel KO KK args H k => match args with
  | [a0, a1] => (fun n0 =>
 I.bin .lss 3 true a0 (.int .i64 0) fun v0 =>
 I.gd v0 false (fun K1 => K1 a1 H false) H false fun v2 H3 e4 =>
 I.gd v0 false (fun K5 => I.len v2 fun v9 =>
 K5 v9 H3 e4) H3 e4 fun v6 H7 e8 =>
 I.gd v0 false (fun K10 => I.bin .lss 3 true v6 (.int .i64 1) fun v14 =>
 K10 v14 H7 e8) H7 e8 fun v11 H12 e13 =>
 I.pick v0 (.bool true) v11 fun v15 =>
 I.gd v15 false (fun K16 => K16 a1 H12 e13) H12 e13 fun v17 H18 e19 =>
 I.gd v15 false (fun K20 => I.len v17 fun v24 =>
 K20 v24 H18 e19) H18 e19 fun v21 H22 e23 =>
 I.gd v15 false (fun K25 => I.bin .gtr 3 true v21 (.int .i64 32) fun v29 =>
 K25 v29 H22 e23) H22 e23 fun v26 H27 e28 =>
 I.pick v15 (.bool true) v26 fun v30 =>
 I.gd v30 false (fun K31 => K31 a0 H27 e28) H27 e28 fun v32 H33 e34 =>
 I.gd v30 false (fun K35 => K35 a1 H33 e34) H33 e34 fun v36 H37 e38 =>
 I.gd v30 false (fun K39 => I.len v36 fun v43 =>
 K39 v43 H37 e38) H37 e38 fun v40 H41 e42 =>
 I.gd v30 false (fun K44 => I.bin .sub 3 true (.int .i64 32) v40 fun v48 =>
 K44 v48 H41 e42) H41 e42 fun v45 H46 e47 =>
 I.gd v30 false (fun K49 => I.bin .gtr 3 false v32 v45 fun v53 =>
 K49 v53 H46 e47) H46 e47 fun v50 H51 e52 =>
 I.pick v30 (.bool true) v50 fun v54 =>
 I.cond v54 (
 KK 153 [(.int .i64 1), (.str ⟨#[98, 121, 116, 101, 115]⟩)] H51 fun v55 H56 f57 => (fun e58 =>
 KK 86 [v55, (.str ⟨#[97, 112, 112, 108, 121]⟩)] H56 fun v59 H60 f61 => (fun e62 =>
 I.fin n0 H60 e62 [v59] k) (escQ f61 e58)) (escQ f57 e52)) (
 I.fin n0 H51 e52 [.nili] k)) (lenQ H)
  | _ => I.bot⟩
theorem ok265 (R : Type) : TxtOk Tryz.prog U ann 265 (r265 R) := fun I fuel KO KK args H k => match args with
  | [] => .inl rfl
  | [_] => .inl rfl
  | [a0, a1] => .inr (by kernel_rfl)
  | _ :: _ :: _ :: _ => .inl rfl
/-- slices.pdqsortOrdered[int] -/
noncomputable def r266 (R : Type) : Bx (Txt R) := ⟨fun I fuel KO KK args H k => match args with
  | [a0, a1, a2, a3] => (fun n0 =>
 I.head n0 783 [(0, a0), (1, a1), (2, a2), (3, a3), (8, (.bool true)), (9, (.bool true)), (10, .bad), (11, .bad), (12, .bad), (13, .bad), (14, .bad), (15, .bad), (16, .bad), (17, .bad), (18, .bad), (23, .bad), (29, .bad), (35, .bad), (50, .bad), (68, .bad), (72, .bad), (87, .bad), (113, .bad)] H false fun L0 H1 => loopM I n0 783 (fun L2 H3 e4 k5 =>
 I.join (fun L6 H7 e8 =>
 k5 .normal [(0, (lookQ L6 0)), (1, (lookQ L6 1)), (2, (lookQ L6 2)), (3, (lookQ L6 3)), (8, (lookQ L6 8)), (9, (lookQ L6 9)), (10, (lookQ L6 10)), (11, (lookQ L6 11)), (12, (lookQ L6 12)), (13, (lookQ L6 13)), (14, (lookQ L6 14)), (15, (lookQ L6 15)), (16, (lookQ L6 16)), (17, (lookQ L6 17)), (18, (lookQ L6 18)), (23, (lookQ L6 23)), (29, (lookQ L6 29)), (35, (lookQ L6 35)), (50, (lookQ L6 50)), (68, (lookQ L6 68)), (72, (lookQ L6 72)), (87, (lookQ L6 87)), (113, (lookQ L6 113))] H7 e8) fun j9 =>
 I.bin .sub 3 false (lookQ L2 2) (lookQ L2 1) fun v10 =>
 I.bin .leq 3 true v10 (.int .i64 12) fun v11 =>
 I.cond v11 (
 KK 294 [(lookQ L2 0), (lookQ L2 1), (lookQ L2 2)] H3 fun v12 H13 f14 => (fun e15 =>
 k5 .ret [(0, (lookQ L2 0)), (1, (lookQ L2 1)), (2, (lookQ L2 2)), (3, (lookQ L2 3)), (8, (lookQ L2 8)), (9, (lookQ L2 9)), (10, v10), (11, (lookQ L2 11)), (12, (lookQ L2 12)), (13, (lookQ L2 13)), (14, (lookQ L2 14)), (15, (lookQ L2 15)), (16, (lookQ L2 16)), (17, (lookQ L2 17)), (18, (lookQ L2 18)), (23, v11), (29, (lookQ L2 29)), (35, (lookQ L2 35)), (50, (lookQ L2 50)), (68, (lookQ L2 68)), (72, (lookQ L2 72)), (87, (lookQ L2 87)), (113, (lookQ L2 113))] H13 e15) (escQ f14 e4)) (
 I.bin .eql 3 true (lookQ L2 3) (.int .i64 0) fun v16 =>
 I.cond v16 (
 KK 295 [(lookQ L2 0), (lookQ L2 1), (lookQ L2 2)] H3 fun v17 H18 f19 => (fun e20 =>
 k5 .ret [(0, (lookQ L2 0)), (1, (lookQ L2 1)), (2, (lookQ L2 2)), (3, (lookQ L2 3)), (8, (lookQ L2 8)), (9, (lookQ L2 9)), (10, v10), (11, (lookQ L2 11)), (12, (lookQ L2 12)), (13, (lookQ L2 13)), (14, (lookQ L2 14)), (15, (lookQ L2 15)), (16, (lookQ L2 16)), (17, (lookQ L2 17)), (18, (lookQ L2 18)), (23, v11), (29, v16), (35, (lookQ L2 35)), (50, (lookQ L2 50)), (68, (lookQ L2 68)), (72, (lookQ L2 72)), (87, (lookQ L2 87)), (113, (lookQ L2 113))] H18 e20) (escQ f19 e4)) (
 I.join (fun L21 H22 e23 =>
 KK 297 [(lookQ L21 0), (lookQ L21 1), (lookQ L21 2)] H22 fun v24 H25 f26 => (fun e27 =>
 I.ext v24 0 fun v28 =>
 I.ext v24 1 fun v29 =>
 I.join (fun L30 H31 e32 =>
 I.join (fun L33 H34 e35 =>
 I.bin .gtr 3 true (lookQ L33 1) (.int .i64 0) fun v36 =>
 I.gd v36 true (fun K37 => K37 (lookQ L33 0) H34 e35) H34 e35 fun v38 H39 e40 =>
 I.gd v36 true (fun K41 => K41 (lookQ L33 1) H39 e40) H39 e40 fun v42 H43 e44 =>
 I.gd v36 true (fun K45 => I.bin .sub 3 true v42 (.int .i64 1) fun v49 =>
 K45 v49 H43 e44) H43 e44 fun v46 H47 e48 =>
 I.gd v36 true (fun K50 => I.ia 28 v38 v46 fun v54 =>
 K50 v54 H47 e48) H47 e48 fun v51 H52 e53 =>
 I.gd v36 true (fun K55 => I.load 3 H52 v51 fun v59 =>
 K55 v59 H52 e53) H52 e53 fun v56 H57 e58 =>
 I.gd v36 true (fun K60 => K60 (lookQ L33 0) H57 e58) H57 e58 fun v61 H62 e63 =>
 I.gd v36 true (fun K64 => K64 (lookQ L33 11) H62 e63) H62 e63 fun v65 H66 e67 =>
 I.gd v36 true (fun K68 => I.ia 28 v61 v65 fun v72 =>
 K68 v72 H66 e67) H66 e67 fun v69 H70 e71 =>
 I.gd v36 true (fun K73 => I.load 3 H70 v69 fun v77 =>
 K73 v77 H70 e71) H70 e71 fun v74 H75 e76 =>
 I.gd v36 true (fun K78 => KK 300 [v56, v74] H75 fun v82 H83 f84 => (fun e85 =>
 K78 v82 H83 e85) (escQ f84 e76)) H75 e76 fun v79 H80 e81 =>
 I.gd v36 true (fun K86 => I.un .not v79 fun v90 =>
 K86 v90 H80 e81) H80 e81 fun v87 H88 e89 =>
 I.pick v36 v87 (.bool false) fun v91 =>
 I.cond v91 (
 KK 301 [(lookQ L33 0), (lookQ L33 1), (lookQ L33 2), (lookQ L33 11)] H88 fun v92 H93 f94 => (fun e95 =>
 j9 [(0, (lookQ L33 0)), (1, v92), (2, (lookQ L33 2)), (3, (lookQ L33 3)), (8, (lookQ L33 8)), (9, (lookQ L33 9)), (10, (lookQ L33 10)), (11, (lookQ L33 11)), (12, (lookQ L33 12)), (13, v92), (14, (lookQ L33 14)), (15, (lookQ L33 15)), (16, (lookQ L33 16)), (17, (lookQ L33 17)), (18, (lookQ L33 18)), (23, (lookQ L33 23)), (29, (lookQ L33 29)), (35, (lookQ L33 35)), (50, (lookQ L33 50)), (68, (lookQ L33 68)), (72, (lookQ L33 72)), (87, v91), (113, (lookQ L33 113))] H93 e95) (escQ f94 e89)) (
 KK 302 [(lookQ L33 0), (lookQ L33 1), (lookQ L33 2), (lookQ L33 11)] H88 fun v96 H97 f98 => (fun e99 =>
 I.ext v96 0 fun v100 =>
 I.ext v96 1 fun v101 =>
 I.bin .sub 3 false v100 (lookQ L33 1) fun v102 =>
 I.bin .sub 3 false (lookQ L33 2) v100 fun v103 =>
 I.bin .quo 3 true (lookQ L33 10) (.int .i64 8) fun v104 =>
 I.bin .lss 3 false v102 v103 fun v105 =>
 I.cond v105 (
 I.bin .geq 3 false v102 v104 fun v106 =>
 KK 266 [(lookQ L33 0), (lookQ L33 1), v100, (lookQ L33 3)] H97 fun v107 H108 f109 => (fun e110 =>
 I.bin .add 3 true v100 (.int .i64 1) fun v111 =>
 j9 [(0, (lookQ L33 0)), (1, v111), (2, (lookQ L33 2)), (3, (lookQ L33 3)), (8, v106), (9, v101), (10, (lookQ L33 10)), (11, (lookQ L33 11)), (12, (lookQ L33 12)), (13, (lookQ L33 13)), (14, v100), (15, v101), (16, v102), (17, v103), (18, v104), (23, (lookQ L33 23)), (29, (lookQ L33 29)), (35, (lookQ L33 35)), (50, (lookQ L33 50)), (68, (lookQ L33 68)), (72, (lookQ L33 72)), (87, v91), (113, v105)] H108 e110) (escQ f109 e99)) (
 I.bin .geq 3 false v103 v104 fun v112 =>
 I.bin .add 3 true v100 (.int .i64 1) fun v113 =>
 KK 266 [(lookQ L33 0), v113, (lookQ L33 2), (lookQ L33 3)] H97 fun v114 H115 f116 => (fun e117 =>
 j9 [(0, (lookQ L33 0)), (1, (lookQ L33 1)), (2, v100), (3, (lookQ L33 3)), (8, v112), (9, v101), (10, (lookQ L33 10)), (11, (lookQ L33 11)), (12, (lookQ L33 12)), (13, (lookQ L33 13)), (14, v100), (15, v101), (16, v102), (17, v103), (18, v104), (23, (lookQ L33 23)), (29, (lookQ L33 29)), (35, (lookQ L33 35)), (50, (lookQ L33 50)), (68, (lookQ L33 68)), (72, (lookQ L33 72)), (87, v91), (113, v105)] H115 e117) (escQ f116 e99))) (escQ f98 e89))) fun j118 =>
 I.gd (lookQ L30 8) true (fun K119 => K119 (lookQ L30 9) H31 e32) H31 e32 fun v120 H121 e122 =>
 I.pick (lookQ L30 8) v120 (.bool false) fun v123 =>
 I.gd v123 true (fun K124 => K124 (lookQ L30 12) H121 e122) H121 e122 fun v125 H126 e127 =>
 I.gd v123 true (fun K128 => I.bin .eql 432 true v125 (.int .i64 1) fun v132 =>
 K128 v132 H126 e127) H126 e127 fun v129 H130 e131 =>
 I.pick v123 v129 (.bool false) fun v133 =>
 I.cond v133 (
 KK 299 [(lookQ L30 0), (lookQ L30 1), (lookQ L30 2)] H130 fun v134 H135 f136 => (fun e137 =>
 I.cond v134 (
 k5 .ret [(0, (lookQ L30 0)), (1, (lookQ L30 1)), (2, (lookQ L30 2)), (3, (lookQ L30 3)), (8, (lookQ L30 8)), (9, (lookQ L30 9)), (10, (lookQ L30 10)), (11, (lookQ L30 11)), (12, (lookQ L30 12)), (13, (lookQ L30 13)), (14, (lookQ L30 14)), (15, (lookQ L30 15)), (16, (lookQ L30 16)), (17, (lookQ L30 17)), (18, (lookQ L30 18)), (23, (lookQ L30 23)), (29, (lookQ L30 29)), (35, (lookQ L30 35)), (50, (lookQ L30 50)), (68, v133), (72, v134), (87, (lookQ L30 87)), (113, (lookQ L30 113))] H135 e137) (
 j118 [(0, (lookQ L30 0)), (1, (lookQ L30 1)), (2, (lookQ L30 2)), (3, (lookQ L30 3)), (8, (lookQ L30 8)), (9, (lookQ L30 9)), (10, (lookQ L30 10)), (11, (lookQ L30 11)), (12, (lookQ L30 12)), (13, (lookQ L30 13)), (14, (lookQ L30 14)), (15, (lookQ L30 15)), (16, (lookQ L30 16)), (17, (lookQ L30 17)), (18, (lookQ L30 18)), (23, (lookQ L30 23)), (29, (lookQ L30 29)), (35, (lookQ L30 35)), (50, (lookQ L30 50)), (68, v133), (72, v134), (87, (lookQ L30 87)), (113, (lookQ L30 113))] H135 e137)) (escQ f136 e131)) (
 j118 [(0, (lookQ L30 0)), (1, (lookQ L30 1)), (2, (lookQ L30 2)), (3, (lookQ L30 3)), (8, (lookQ L30 8)), (9, (lookQ L30 9)), (10, (lookQ L30 10)), (11, (lookQ L30 11)), (12, (lookQ L30 12)), (13, (lookQ L30 13)), (14, (lookQ L30 14)), (15, (lookQ L30 15)), (16, (lookQ L30 16)), (17, (lookQ L30 17)), (18, (lookQ L30 18)), (23, (lookQ L30 23)), (29, (lookQ L30 29)), (35, (lookQ L30 35)), (50, (lookQ L30 50)), (68, v133), (72, (lookQ L30 72)), (87, (lookQ L30 87)), (113, (lookQ L30 113))] H130 e131)) fun j138 =>
 I.bin .eql 432 true v29 (.int .i64 2) fun v139 =>
 I.cond v139 (
 KK 298 [(lookQ L21 0), (lookQ L21 1), (lookQ L21 2)] H25 fun v140 H141 f142 => (fun e143 =>
 I.bin .sub 3 true (lookQ L21 2) (.int .i64 1) fun v144 =>
 I.bin .sub 3 false v28 (lookQ L21 1) fun v145 =>
 I.bin .sub 3 false v144 v145 fun v146 =>
 j138 [(0, (lookQ L21 0)), (1, (lookQ L21 1)), (2, (lookQ L21 2)), (3, (lookQ L21 3)), (8, (lookQ L21 8)), (9, (lookQ L21 9)), (10, (lookQ L21 10)), (11, v146), (12, (.int .i64 1)), (13, (lookQ L21 13)), (14, (lookQ L21 14)), (15, (lookQ L21 15)), (16, (lookQ L21 16)), (17, (lookQ L21 17)), (18, (lookQ L21 18)), (23, (lookQ L21 23)), (29, (lookQ L21 29)), (35, (lookQ L21 35)), (50, v139), (68, (lookQ L21 68)), (72, (lookQ L21 72)), (87, (lookQ L21 87)), (113, (lookQ L21 113))] H141 e143) (escQ f142 e27)) (
 j138 [(0, (lookQ L21 0)), (1, (lookQ L21 1)), (2, (lookQ L21 2)), (3, (lookQ L21 3)), (8, (lookQ L21 8)), (9, (lookQ L21 9)), (10, (lookQ L21 10)), (11, v28), (12, v29), (13, (lookQ L21 13)), (14, (lookQ L21 14)), (15, (lookQ L21 15)), (16, (lookQ L21 16)), (17, (lookQ L21 17)), (18, (lookQ L21 18)), (23, (lookQ L21 23)), (29, (lookQ L21 29)), (35, (lookQ L21 35)), (50, v139), (68, (lookQ L21 68)), (72, (lookQ L21 72)), (87, (lookQ L21 87)), (113, (lookQ L21 113))] H25 e27)) (escQ f26 e23)) fun j147 =>
 I.un .not (lookQ L2 8) fun v148 =>
 I.cond v148 (
 KK 296 [(lookQ L2 0), (lookQ L2 1), (lookQ L2 2)] H3 fun v149 H150 f151 => (fun e152 =>
 I.bin .sub 3 true (lookQ L2 3) (.int .i64 1) fun v153 =>
 j147 [(0, (lookQ L2 0)), (1, (lookQ L2 1)), (2, (lookQ L2 2)), (3, v153), (8, (lookQ L2 8)), (9, (lookQ L2 9)), (10, v10), (11, (lookQ L2 11)), (12, (lookQ L2 12)), (13, (lookQ L2 13)), (14, (lookQ L2 14)), (15, (lookQ L2 15)), (16, (lookQ L2 16)), (17, (lookQ L2 17)), (18, (lookQ L2 18)), (23, v11), (29, v16), (35, v148), (50, (lookQ L2 50)), (68, (lookQ L2 68)), (72, (lookQ L2 72)), (87, (lookQ L2 87)), (113, (lookQ L2 113))] H150 e152) (escQ f151 e4)) (
 j147 [(0, (lookQ L2 0)), (1, (lookQ L2 1)), (2, (lookQ L2 2)), (3, (lookQ L2 3)), (8, (lookQ L2 8)), (9, (lookQ L2 9)), (10, v10), (11, (lookQ L2 11)), (12, (lookQ L2 12)), (13, (lookQ L2 13)), (14, (lookQ L2 14)), (15, (lookQ L2 15)), (16, (lookQ L2 16)), (17, (lookQ L2 17)), (18, (lookQ L2 18)), (23, v11), (29, v16), (35, v148), (50, (lookQ L2 50)), (68, (lookQ L2 68)), (72, (lookQ L2 72)), (87, (lookQ L2 87)), (113, (lookQ L2 113))] H3 e4)))) fuel L0 H1 false (selK I.bot [(1, (fun L154 H155 e156 =>
 I.bot))] (fun L157 H158 e159 =>
 I.fin n0 H158 e159 [] k))) (lenQ H)
  | _ => I.bot⟩
theorem ok266 (R : Type) : TxtOk Tryz.prog U ann 266 (r266 R) := fun I fuel KO KK args H k => match args with
  | [] => .inl rfl
  | [_] => .inl rfl
  | [_, _] => .inl rfl
  | [_, _, _] => .inl rfl
  | [a0, a1, a2, a3] => .inr (by kernel_rfl)
  | _ :: _ :: _ :: _ :: _ :: _ => .inl rfl
/-- math/bits.Len -/
noncomputable def r267 (R : Type) : Bx (Txt R) := ⟨fun I fuel KO KK args H k => match args with
  | [a0] => (fun n0 =>
 I.cond (.bool false) (
 I.conv 379 22 a0 H fun v0 H1 =>
 KK 303 [v0] H1 fun v2 H3 f4 => (fun e5 =>
 I.fin n0 H3 e5 [v2] k) (escQ f4 false)) (
 KK 304 [a0] H fun v6 H7 f8 => (fun e9 =>
 I.fin n0 H7 e9 [v6] k) (escQ f8 false))) (lenQ H)
  | _ => I.bot⟩
theorem ok267 (R : Type) : TxtOk Tryz.prog U ann 267 (r267 R) := fun I fuel KO KK args H k => match args with
  | [] => .inl rfl
  | [a0] => .inr (by kernel_rfl)
  | _ :: _ :: _ => .inl rfl
/-- (*silt/pins.Pins).Of -/
noncomputable def r268 (R : Type) : Bx (Txt R) := ⟨fun I fuel KO KK args H k => match args with
  | [a0, a1] => (fun n0 =>
 KK 271 [a0, a1] H fun v0 H1 f2 => (fun e3 =>
 I.bin .neq 137 true v0 .nili fun v4 =>
 I.cond v4 (
 I.fin n0 H1 e3 [.nils] k) (
 I.nil a0 fun v5 =>
 I.fa 213 0 v5 fun v6 =>
 I.load 211 H1 v6 fun v7 =>
 I.ia 211 v7 a1 fun v8 =>
 I.load 28 H1 v8 fun v9 =>
 KK 97 [v9] H1 fun v10 H11 f12 => (fun e13 =>
 I.fin n0 H11 e13 [v10] k) (escQ f12 e3))) (escQ f2 false)) (lenQ H)
  | _ => I.bot⟩
theorem ok268 (R : Type) : TxtOk Tryz.prog U ann 268 (r268 R) := fun I fuel KO KK args H k => match args with
  | [] => .inl rfl
  | [_] => .inl rfl
  | [a0, a1] => .inr (by kernel_rfl)
  | _ :: _ :: _ :: _ => .inl rfl
/-- (*silt/pins.Pins).Add -/
noncomputable def r269 (R : Type) : Bx (Txt R) := ⟨fun I fuel KO KK args H k => match args with
  | [a0, a1, a2] => (fun n0 =>
 KK 305 [a0, a1, a2] H fun v0 H1 f2 => (fun e3 =>
 KK 270 [v0] H1 fun v4 H5 f6 => (fun e7 =>
 I.bin .neq 33 true v4 (.int .i64 0) fun v8 =>
 I.cond v8 (
 I.fin n0 H5 e7 [v4] k) (
 I.nil a0 fun v9 =>
 I.fa 213 0 v9 fun v10 =>
 I.load 211 H5 v10 fun v11 =>
 I.nil a0 fun v12 =>
 I.fa 213 0 v12 fun v13 =>
 I.load 211 H5 v13 fun v14 =>
 I.ia 211 v14 a1 fun v15 =>
 I.load 28 H5 v15 fun v16 =>
 I.bslice 28 1 [(0, a2)] H5 fun v17 H18 =>
 I.blt true .append #[28, 28] n0 [v16, v17] H18 fun v19 H20 f21 => (fun e22 =>
 I.ia 211 v11 a1 fun v23 =>
 I.store n0 28 H20 v23 v19 fun H24 f25 => (fun e26 =>
 I.load 211 H18 v10 fun v27 =>
 I.same v27 v11 (
 I.load 211 H20 v10 fun v28 =>
 I.same v28 v11 (
 I.load 211 H18 v13 fun v29 =>
 I.same v29 v14 (
 I.load 28 H18 v15 fun v30 =>
 I.same v30 v16 (
 I.nil a0 fun v31 =>
 I.fa 213 0 v31 fun v32 =>
 I.load 211 H24 v32 fun v33 =>
 I.ia 211 v33 a1 fun v34 =>
 I.load 28 H24 v34 fun v35 =>
 KK 204 [v35] H24 fun v36 H37 f38 => (fun e39 =>
 I.fin n0 H37 e39 [(.int .i64 0)] k) (escQ f38 e26)))))) (escQ f25 e22)) (escQ f21 e7))) (escQ f6 e3)) (escQ f2 false)) (lenQ H)
  | _ => I.bot⟩
theorem ok269 (R : Type) : TxtOk Tryz.prog U ann 269 (r269 R) := fun I fuel KO KK args H k => match args with
  | [] => .inl rfl
  | [_] => .inl rfl
  | [_, _] => .inl rfl
  | [a0, a1, a2] => .inr (by kernel_rfl)
  | _ :: _ :: _ :: _ :: _ => .inl rfl
/-- silt/pins.number -/
noncomputable def r270 (R : Type) : Bx (Txt R) := ⟨fun I fuel KO KK args H k => match args with
  | [a0] => (fun n0 =>
 I.bslice 441 4 [(0, (.int .i64 1)), (1, (.int .i64 20)), (2, (.int .i64 16)), (3, (.int .i64 19))] H fun v0 H1 =>
 I.len v0 fun v2 =>
 I.head n0 225 [(0, a0), (2, (.int .i64 0)), (4, .bad), (5, v0), (6, v2), (7, (.int .i64 0)), (8, .bad), (14, .bad)] H1 false fun L3 H4 => loopM I n0 225 (fun L5 H6 e7 k8 =>
 I.bin .lss 3 false (lookQ L5 7) (lookQ L5 6) fun v9 =>
 I.cond v9 (
 I.ia 441 (lookQ L5 5) (lookQ L5 7) fun v10 =>
 I.load 33 H6 v10 fun v11 =>
 I.mkI 33 v11 fun v12 =>
 KK 143 [(lookQ L5 0), v12] H6 fun v13 H14 f15 => (fun e16 =>
 I.cond v13 (
 k8 .ret [(0, (lookQ L5 0)), (2, v11), (4, v11), (5, (lookQ L5 5)), (6, (lookQ L5 6)), (7, (lookQ L5 7)), (8, v9), (14, v13)] H14 e16) (
 I.bin .add 3 true (lookQ L5 7) (.int .i64 1) fun v17 =>
 k8 .normal [(0, (lookQ L5 0)), (2, (lookQ L5 2)), (4, v11), (5, (lookQ L5 5)), (6, (lookQ L5 6)), (7, v17), (8, v9), (14, v13)] H14 e16)) (escQ f15 e7)) (
 k8 (.exit 0) [(0, (lookQ L5 0)), (2, (lookQ L5 2)), (4, (lookQ L5 4)), (5, (lookQ L5 5)), (6, (lookQ L5 6)), (7, (lookQ L5 7)), (8, v9), (14, (lookQ L5 14))] H6 e7)) fuel L3 H4 false (selK I.bot [(0, (fun L18 H19 e20 =>
 I.fin n0 H19 e20 [(.int .i64 0)] k))] (fun L21 H22 e23 =>
 I.fin n0 H22 e23 [(lookQ L21 2)] k))) (lenQ H)
  | _ => I.bot⟩
theorem ok270 (R : Type) : TxtOk Tryz.prog U ann 270 (r270 R) := fun I fuel KO KK args H k => match args with
  | [] => .inl rfl
  | [a0] => .inr (by kernel_rfl)
  | _ :: _ :: _ => .inl rfl
/-- (*silt/pins.Pins).session -/
noncomputable def r271 (R : Type) : Bx (Txt R) := ⟨fun I fuel KO KK args H k => match args with
  | [a0, a1] => (fun n0 =>
 I.bin .eql 96 true a0 .nilp fun v0 =>
 I.cond v0 (
 KK 153 [(.int .i64 1), (.str ⟨#[112, 105, 110, 115]⟩)] H fun v1 H2 f3 => (fun e4 =>
 I.fin n0 H2 e4 [v1] k) (escQ f3 false)) (
 I.bin .lss 3 true a1 (.int .i64 0) fun v5 =>
 I.gd v5 false (fun K6 => K6 a1 H false) H false fun v7 H8 e9 =>
 I.gd v5 false (fun K10 => K10 a0 H8 e9) H8 e9 fun v11 H12 e13 =>
 I.gd v5 false (fun K14 => I.nil v11 fun v18 =>
 K14 v18 H12 e13) H12 e13 fun v15 H16 e17 =>
 I.gd v5 false (fun K19 => I.fa 213 0 v15 fun v23 =>
 K19 v23 H16 e17) H16 e17 fun v20 H21 e22 =>
 I.gd v5 false (fun K24 => I.load 211 H21 v20 fun v28 =>
 K24 v28 H21 e22) H21 e22 fun v25 H26 e27 =>
 I.gd v5 false (fun K29 => I.len v25 fun v33 =>
 K29 v33 H26 e27) H26 e27 fun v30 H31 e32 =>
 I.gd v5 false (fun K34 => I.bin .geq 3 false v7 v30 fun v38 =>
 K34 v38 H31 e32) H31 e32 fun v35 H36 e37 =>
 I.pick v5 (.bool true) v35 fun v39 =>
 I.cond v39 (
 KK 153 [(.int .i64 20), (.str ⟨#[112, 105, 110, 115]⟩)] H36 fun v40 H41 f42 => (fun e43 =>
 I.fin n0 H41 e43 [v40] k) (escQ f42 e37)) (
 I.fin n0 H36 e37 [.nili] k))) (lenQ H)
  | _ => I.bot⟩
theorem ok271 (R : Type) : TxtOk Tryz.prog U ann 271 (r271 R) := fun I fuel KO KK args H k => match args with
  | [] => .inl rfl
  | [_] => .inl rfl
  | [a0, a1] => .inr (by kernel_rfl)
  | _ :: _ :: _ :: _ => .inl rfl
/-- silt/heads.at -/
noncomputable def r273 (R : Type) : Bx (Txt R) := ⟨fun I fuel KO KK args H k => match args with
  | [a0, a1] => (fun n0 =>
 I.len a0 fun v0 =>
 I.bin .lss 3 false a1 v0 fun v1 =>
 I.cond v1 (
 I.ia 28 a0 a1 fun v2 =>
 I.load 3 H v2 fun v3 =>
 I.fin n0 H false [v3] k) (
 I.fin n0 H false [(.int .i64 0)] k)) (lenQ H)
  | _ => I.bot⟩
theorem ok273 (R : Type) : TxtOk Tryz.prog U ann 273 (r273 R) := fun I fuel KO KK args H k => match args with
  | [] => .inl rfl
  | [_] => .inl rfl
  | [a0, a1] => .inr (by kernel_rfl)
  | _ :: _ :: _ :: _ => .inl rfl
/-- silt/region.Decode -/
noncomputable def r279 (R : Type) : Bx (Txt R) := ⟨fun I fuel KO KK args H k => match args with
  | [a0] => (fun n0 =>
 I.box a0 H fun v0 H1 =>
 I.alloc 27 H1 fun v2 H3 =>
 I.ia 270 v0 (.int .i64 0) fun v4 =>
 I.slice 269 H3 v4 (some (.int .i64 6)) none fun v5 =>
 I.ia 270 v0 (.int .i64 0) fun v6 =>
 I.slice 269 H3 v6 (some (.int .i64 2)) none fun v7 =>
 I.ia 65 v5 (.int .i64 0) fun v8 =>
 I.load 5 H3 v8 fun v9 =>
 I.conv 5 3 v9 H3 fun v10 H11 =>
 I.ia 65 v5 (.int .i64 1) fun v12 =>
 I.load 5 H11 v12 fun v13 =>
 I.conv 5 3 v13 H11 fun v14 H15 =>
 I.ia 65 v5 (.int .i64 2) fun v16 =>
 I.load 5 H15 v16 fun v17 =>
 I.conv 5 3 v17 H15 fun v18 H19 =>
 I.ia 65 v5 (.int .i64 3) fun v20 =>
 I.load 5 H19 v20 fun v21 =>
 I.conv 5 3 v21 H19 fun v22 H23 =>
 I.build 24 [(0, v10), (1, v14), (2, v18), (3, v22)] fun v24 =>
 I.ia 65 v5 (.int .i64 4) fun v25 =>
 I.load 5 H23 v25 fun v26 =>
 I.conv 5 3 v26 H23 fun v27 H28 =>
 I.ia 65 v5 (.int .i64 5) fun v29 =>
 I.load 5 H28 v29 fun v30 =>
 I.conv 5 3 v30 H28 fun v31 H32 =>
 I.ia 270 v0 (.int .i64 0) fun v33 =>
 I.slice 269 H32 v33 (some (.int .i64 12)) none fun v34 =>
 KK 307 [v7] H32 fun v35 H36 f37 => (fun e38 =>
 KK 307 [v34] H36 fun v39 H40 f41 => (fun e42 =>
 I.build 27 [(0, v35), (1, v24), (2, v27), (3, v31), (4, v39)] fun v43 =>
 I.alloc 27 H40 fun v44 H45 =>
 I.bare H45 (
 I.store n0 27 H45 v44 v43 fun H46 f47 => (fun e48 =>
 I.load 5 H36 v8 fun v49 =>
 I.same v49 v9 (
 I.load 5 H40 v8 fun v50 =>
 I.same v50 v9 (
 I.load 5 H45 v8 fun v51 =>
 I.same v51 v9 (
 I.conv 5 3 v9 H36 fun v52 H53 =>
 I.same v52 v10 (
 I.conv 5 3 v9 H40 fun v54 H55 =>
 I.same v54 v10 (
 I.conv 5 3 v9 H45 fun v56 H57 =>
 I.same v56 v10 (
 I.load 5 H36 v12 fun v58 =>
 I.same v58 v13 (
 I.load 5 H40 v12 fun v59 =>
 I.same v59 v13 (
 I.load 5 H45 v12 fun v60 =>
 I.same v60 v13 (
 I.conv 5 3 v13 H36 fun v61 H62 =>
 I.same v61 v14 (
 I.conv 5 3 v13 H40 fun v63 H64 =>
 I.same v63 v14 (
 I.conv 5 3 v13 H45 fun v65 H66 =>
 I.same v65 v14 (
 I.load 5 H36 v16 fun v67 =>
 I.same v67 v17 (
 I.load 5 H40 v16 fun v68 =>
 I.same v68 v17 (
 I.load 5 H45 v16 fun v69 =>
 I.same v69 v17 (
 I.conv 5 3 v17 H36 fun v70 H71 =>
 I.same v70 v18 (
 I.conv 5 3 v17 H40 fun v72 H73 =>
 I.same v72 v18 (
 I.conv 5 3 v17 H45 fun v74 H75 =>
 I.same v74 v18 (
 I.load 5 H36 v20 fun v76 =>
 I.same v76 v21 (
 I.load 5 H40 v20 fun v77 =>
 I.same v77 v21 (
 I.load 5 H45 v20 fun v78 =>
 I.same v78 v21 (
 I.conv 5 3 v21 H36 fun v79 H80 =>
 I.same v79 v22 (
 I.conv 5 3 v21 H40 fun v81 H82 =>
 I.same v81 v22 (
 I.conv 5 3 v21 H45 fun v83 H84 =>
 I.same v83 v22 (
 I.load 5 H36 v25 fun v85 =>
 I.same v85 v26 (
 I.load 5 H40 v25 fun v86 =>
 I.same v86 v26 (
 I.load 5 H45 v25 fun v87 =>
 I.same v87 v26 (
 I.conv 5 3 v26 H36 fun v88 H89 =>
 I.same v88 v27 (
 I.conv 5 3 v26 H40 fun v90 H91 =>
 I.same v90 v27 (
 I.conv 5 3 v26 H45 fun v92 H93 =>
 I.same v92 v27 (
 I.load 5 H36 v29 fun v94 =>
 I.same v94 v30 (
 I.load 5 H40 v29 fun v95 =>
 I.same v95 v30 (
 I.load 5 H45 v29 fun v96 =>
 I.same v96 v30 (
 I.conv 5 3 v30 H36 fun v97 H98 =>
 I.same v97 v31 (
 I.conv 5 3 v30 H40 fun v99 H100 =>
 I.same v99 v31 (
 I.conv 5 3 v30 H45 fun v101 H102 =>
 I.same v101 v31 (
 I.slice 269 H36 v33 (some (.int .i64 12)) none fun v103 =>
 I.same v103 v34 (
 I.head n0 8796093022246 [(0, a0), (1, v0), (2, v2), (3, (.int .i64 0)), (4, v5), (5, v44), (6, .bad), (7, .bad), (8, .bad), (43, (.int .i64 0)), (44, .bad), (78, .bad)] H46 e48 fun L104 H105 => loopM I n0 8796093022246 (fun L106 H107 e108 k109 =>
 I.bin .lss 3 true (lookQ L106 43) (.int .i64 8) fun v110 =>
 I.cond v110 (
 I.bin .mul 3 true (.int .i64 2) (lookQ L106 43) fun v111 =>
 I.bin .add 3 true (.int .i64 6) v111 fun v112 =>
 I.ia 270 (lookQ L106 1) (.int .i64 1) fun v113 =>
 I.ia 269 v113 v112 fun v114 =>
 I.load 5 H107 v114 fun v115 =>
 I.conv 5 3 v115 H107 fun v116 H117 =>
 I.bin .mul 3 true (.int .i64 2) (lookQ L106 43) fun v118 =>
 I.bin .add 3 true (.int .i64 6) v118 fun v119 =>
 I.bin .add 3 true v119 (.int .i64 1) fun v120 =>
 I.ia 270 (lookQ L106 1) (.int .i64 1) fun v121 =>
 I.ia 269 v121 v120 fun v122 =>
 I.load 5 H117 v122 fun v123 =>
 I.conv 5 3 v123 H117 fun v124 H125 =>
 I.bin .shl 3 true v124 (.int .u64 8) fun v126 =>
 I.bin .or 3 false v116 v126 fun v127 =>
 I.fa 27 5 (lookQ L106 5) fun v128 =>
 I.ia 25 v128 (lookQ L106 43) fun v129 =>
 I.store n0 3 H125 v129 v127 fun H130 f131 => (fun e132 =>
 I.bin .add 3 true (lookQ L106 43) (.int .i64 1) fun v133 =>
 k109 .normal [(0, (lookQ L106 0)), (1, (lookQ L106 1)), (2, (lookQ L106 2)), (3, (lookQ L106 3)), (4, (lookQ L106 4)), (5, (lookQ L106 5)), (6, (lookQ L106 43)), (7, (lookQ L106 7)), (8, (lookQ L106 8)), (43, v133), (44, v110), (78, (lookQ L106 78))] H130 e132) (escQ f131 e108)) (
 k109 (.exit 0) [(0, (lookQ L106 0)), (1, (lookQ L106 1)), (2, (lookQ L106 2)), (3, (lookQ L106 3)), (4, (lookQ L106 4)), (5, (lookQ L106 5)), (6, (lookQ L106 6)), (7, (lookQ L106 7)), (8, (lookQ L106 8)), (43, (lookQ L106 43)), (44, v110), (78, (lookQ L106 78))] H107 e108)) fuel L104 H105 e48 (selK I.bot [(0, (fun L134 H135 e136 =>
 I.load 27 H135 (lookQ L134 5) fun v137 =>
 KK 165 [v137] H135 fun v138 H139 f140 => (fun e141 =>
 I.ext v138 0 fun v142 =>
 I.ext v138 1 fun v143 =>
 I.alloc 270 H139 fun v144 H145 =>
 I.store n0 270 H145 v144 v142 fun H146 f147 => (fun e148 =>
 I.bin .neq 33 true v143 (.int .i64 0) fun v149 =>
 I.gd v149 false (fun K150 => I.load 270 H146 v144 fun v154 =>
 K150 v154 H146 e148) H146 e148 fun v151 H152 e153 =>
 I.gd v149 false (fun K155 => I.load 270 H152 (lookQ L134 1) fun v159 =>
 K155 v159 H152 e153) H152 e153 fun v156 H157 e158 =>
 I.gd v149 false (fun K160 => I.bin .neq 270 false v151 v156 fun v164 =>
 K160 v164 H157 e158) H157 e158 fun v161 H162 e163 =>
 I.pick v149 (.bool true) v161 fun v165 =>
 I.cond v165 (
 I.build 27 [] fun v166 =>
 I.store n0 27 H162 (lookQ L134 2) v166 fun H167 f168 => (fun e169 =>
 I.load 27 H167 (lookQ L134 2) fun v170 =>
 I.fin n0 H167 e169 [v170, (.int .i64 11)] k) (escQ f168 e163)) (
 I.load 27 H162 (lookQ L134 5) fun v171 =>
 I.store n0 27 H162 (lookQ L134 2) v171 fun H172 f173 => (fun e174 =>
 I.load 27 H172 (lookQ L134 2) fun v175 =>
 I.fin n0 H172 e174 [v175, (.int .i64 0)] k) (escQ f173 e163))) (escQ f147 e141)) (escQ f140 e136)))] (fun _ _ _ => I.bot)))))))))))))))))))))))))))))))))))))))) (escQ f47 e42))) (escQ f41 e38)) (escQ f37 false)) (lenQ H)
  | _ => I.bot⟩
theorem ok279 (R : Type) : TxtOk Tryz.prog U ann 279 (r279 R) := fun I fuel KO KK args H k => match args with
  | [] => .inl rfl
  | [a0] => .inr (by kernel_rfl)
  | _ :: _ :: _ => .inl rfl
/-- silt/mappage.alike -/
noncomputable def r280 (R : Type) : Bx (Txt R) := ⟨fun I fuel KO KK args H k => match args with
  | [a0, a1] => (fun n0 =>
 I.box a0 H fun v0 H1 =>
 I.box a1 H1 fun v2 H3 =>
 I.fa 158 0 v0 fun v4 =>
 I.load 3 H3 v4 fun v5 =>
 I.fa 158 0 v2 fun v6 =>
 I.load 3 H3 v6 fun v7 =>
 I.bin .eql 3 false v5 v7 fun v8 =>
 I.gd v8 true (fun K9 => I.fa 158 1 v0 fun v13 =>
 K9 v13 H3 false) H3 false fun v10 H11 e12 =>
 I.gd v8 true (fun K14 => I.load 3 H11 v10 fun v18 =>
 K14 v18 H11 e12) H11 e12 fun v15 H16 e17 =>
 I.gd v8 true (fun K19 => I.fa 158 1 v2 fun v23 =>
 K19 v23 H16 e17) H16 e17 fun v20 H21 e22 =>
 I.gd v8 true (fun K24 => I.load 3 H21 v20 fun v28 =>
 K24 v28 H21 e22) H21 e22 fun v25 H26 e27 =>
 I.gd v8 true (fun K29 => I.bin .eql 3 false v15 v25 fun v33 =>
 K29 v33 H26 e27) H26 e27 fun v30 H31 e32 =>
 I.pick v8 v30 (.bool false) fun v34 =>
 I.gd v34 true (fun K35 => I.fa 158 2 v0 fun v39 =>
 K35 v39 H31 e32) H31 e32 fun v36 H37 e38 =>
 I.gd v34 true (fun K40 => I.load 40 H37 v36 fun v44 =>
 K40 v44 H37 e38) H37 e38 fun v41 H42 e43 =>
 I.gd v34 true (fun K45 => I.fa 158 2 v2 fun v49 =>
 K45 v49 H42 e43) H42 e43 fun v46 H47 e48 =>
 I.gd v34 true (fun K50 => I.load 40 H47 v46 fun v54 =>
 K50 v54 H47 e48) H47 e48 fun v51 H52 e53 =>
 I.gd v34 true (fun K55 => I.bin .eql 40 false v41 v51 fun v59 =>
 K55 v59 H52 e53) H52 e53 fun v56 H57 e58 =>
 I.pick v34 v56 (.bool false) fun v60 =>
 I.gd v60 true (fun K61 => I.fa 158 3 v0 fun v65 =>
 K61 v65 H57 e58) H57 e58 fun v62 H63 e64 =>
 I.gd v60 true (fun K66 => I.load 3 H63 v62 fun v70 =>
 K66 v70 H63 e64) H63 e64 fun v67 H68 e69 =>
 I.gd v60 true (fun K71 => I.fa 158 3 v2 fun v75 =>
 K71 v75 H68 e69) H68 e69 fun v72 H73 e74 =>
 I.gd v60 true (fun K76 => I.load 3 H73 v72 fun v80 =>
 K76 v80 H73 e74) H73 e74 fun v77 H78 e79 =>
 I.gd v60 true (fun K81 => I.bin .eql 3 false v67 v77 fun v85 =>
 K81 v85 H78 e79) H78 e79 fun v82 H83 e84 =>
 I.pick v60 v82 (.bool false) fun v86 =>
 I.gd v86 true (fun K87 => I.fa 158 4 v0 fun v91 =>
 K87 v91 H83 e84) H83 e84 fun v88 H89 e90 =>
 I.gd v86 true (fun K92 => I.load 65 H89 v88 fun v96 =>
 K92 v96 H89 e90) H89 e90 fun v93 H94 e95 =>
 I.gd v86 true (fun K97 => I.len v93 fun v101 =>
 K97 v101 H94 e95) H94 e95 fun v98 H99 e100 =>
 I.gd v86 true (fun K102 => I.bin .eql 3 true v98 (.int .i64 0) fun v106 =>
 K102 v106 H99 e100) H99 e100 fun v103 H104 e105 =>
 I.pick v86 v103 (.bool false) fun v107 =>
 I.gd v107 true (fun K108 => I.fa 158 4 v2 fun v112 =>
 K108 v112 H104 e105) H104 e105 fun v109 H110 e111 =>
 I.gd v107 true (fun K113 => I.load 65 H110 v109 fun v117 =>
 K113 v117 H110 e111) H110 e111 fun v114 H115 e116 =>
 I.gd v107 true (fun K118 => I.len v114 fun v122 =>
 K118 v122 H115 e116) H115 e116 fun v119 H120 e121 =>
 I.gd v107 true (fun K123 => I.bin .eql 3 true v119 (.int .i64 0) fun v127 =>
 K123 v127 H120 e121) H120 e121 fun v124 H125 e126 =>
 I.pick v107 v124 (.bool false) fun v128 =>
 I.gd v128 true (fun K129 => I.fa 158 5 v0 fun v133 =>
 K129 v133 H125 e126) H125 e126 fun v130 H131 e132 =>
 I.gd v128 true (fun K134 => I.load 3 H131 v130 fun v138 =>
 K134 v138 H131 e132) H131 e132 fun v135 H136 e137 =>
 I.gd v128 true (fun K139 => I.fa 158 5 v2 fun v143 =>
 K139 v143 H136 e137) H136 e137 fun v140 H141 e142 =>
 I.gd v128 true (fun K144 => I.load 3 H141 v140 fun v148 =>
 K144 v148 H141 e142) H141 e142 fun v145 H146 e147 =>
 I.gd v128 true (fun K149 => I.bin .eql 3 false v135 v145 fun v153 =>
 K149 v153 H146 e147) H146 e147 fun v150 H151 e152 =>
 I.pick v128 v150 (.bool false) fun v154 =>
 I.gd v154 true (fun K155 => I.fa 158 6 v0 fun v159 =>
 K155 v159 H151 e152) H151 e152 fun v156 H157 e158 =>
 I.gd v154 true (fun K160 => I.load 25 H157 v156 fun v164 =>
 K160 v164 H157 e158) H157 e158 fun v161 H162 e163 =>
 I.gd v154 true (fun K165 => I.fa 158 6 v2 fun v169 =>
 K165 v169 H162 e163) H162 e163 fun v166 H167 e168 =>
 I.gd v154 true (fun K170 => I.load 25 H167 v166 fun v174 =>
 K170 v174 H167 e168) H167 e168 fun v171 H172 e173 =>
 I.gd v154 true (fun K175 => I.bin .eql 25 false v161 v171 fun v179 =>
 K175 v179 H172 e173) H172 e173 fun v176 H177 e178 =>
 I.pick v154 v176 (.bool false) fun v180 =>
 I.fin n0 H177 e178 [v180] k) (lenQ H)
  | _ => I.bot⟩
theorem ok280 (R : Type) : TxtOk Tryz.prog U ann 280 (r280 R) := fun I fuel KO KK args H k => match args with
  | [] => .inl rfl
  | [_] => .inl rfl
  | [a0, a1] => .inr (by kernel_rfl)
  | _ :: _ :: _ :: _ => .inl rfl
/-- slices.Collect[int] -/
noncomputable def r281 (R : Type) : Bx (Txt R) := ⟨fun I fuel KO KK args H k => match args with
  | [a0] => (fun n0 =>
 KK 308 [.nils, a0] H fun v0 H1 f2 => (fun e3 =>
 I.fin n0 H1 e3 [v0] k) (escQ f2 false)) (lenQ H)
  | _ => I.bot⟩
theorem ok281 (R : Type) : TxtOk Tryz.prog U ann 281 (r281 R) := fun I fuel KO KK args H k => match args with
  | [] => .inl rfl
  | [a0] => .inr (by kernel_rfl)
  | _ :: _ :: _ => .inl rfl
/-- slices.Values[[]int,int]$1 -/
noncomputable def r282 (R : Type) : Bx (Txt R) := ⟨fun I fuel KO KK args H k => match args with
  | [a0, a1] => (fun n0 =>
 I.load 28 H a1 fun v0 =>
 I.len v0 fun v1 =>
 I.head n0 225 [(0, a0), (1, a1), (4, .bad), (5, v0), (6, v1), (7, (.int .i64 0)), (8, .bad), (14, .bad)] H false fun L2 H3 => loopM I n0 225 (fun L4 H5 e6 k7 =>
 I.bin .lss 3 false (lookQ L4 7) (lookQ L4 6) fun v8 =>
 I.cond v8 (
 I.ia 28 (lookQ L4 5) (lookQ L4 7) fun v9 =>
 I.load 3 H5 v9 fun v10 =>
 I.callv KK (lookQ L4 0) [v10] H5 fun v11 H12 f13 => (fun e14 =>
 I.un .not v11 fun v15 =>
 I.cond v15 (
 k7 .ret [(0, (lookQ L4 0)), (1, (lookQ L4 1)), (4, v10), (5, (lookQ L4 5)), (6, (lookQ L4 6)), (7, (lookQ L4 7)), (8, v8), (14, v15)] H12 e14) (
 I.bin .add 3 true (lookQ L4 7) (.int .i64 1) fun v16 =>
 k7 .normal [(0, (lookQ L4 0)), (1, (lookQ L4 1)), (4, v10), (5, (lookQ L4 5)), (6, (lookQ L4 6)), (7, v16), (8, v8), (14, v15)] H12 e14)) (escQ f13 e6)) (
 k7 (.exit 0) [(0, (lookQ L4 0)), (1, (lookQ L4 1)), (4, (lookQ L4 4)), (5, (lookQ L4 5)), (6, (lookQ L4 6)), (7, (lookQ L4 7)), (8, v8), (14, (lookQ L4 14))] H5 e6)) fuel L2 H3 false (selK I.bot [(0, (fun L17 H18 e19 =>
 I.fin n0 H18 e19 [] k))] (fun L20 H21 e22 =>
 I.fin n0 H21 e22 [] k))) (lenQ H)
  | _ => I.bot⟩
theorem ok282 (R : Type) : TxtOk Tryz.prog U ann 282 (r282 R) := fun I fuel KO KK args H k => match args with
  | [] => .inl rfl
  | [_] => .inl rfl
  | [a0, a1] => .inr (by kernel_rfl)
  | _ :: _ :: _ :: _ => .inl rfl
/-- (silt/scan.log).at -/
noncomputable def r283 (R : Type) : Bx (Txt R) := ⟨fun I fuel KO KK args H k => match args with
  | [a0, a1] => (fun n0 =>
 I.box a0 H fun v0 H1 =>
 I.box a1 H1 fun v2 H3 =>
 I.alloc 260 H3 fun v4 H5 =>
 I.alloc 30 H5 fun v6 H7 =>
 I.fa 30 1 v2 fun v8 =>
 I.load 3 H7 v8 fun v9 =>
 I.head n0 444 [(0, a0), (1, a1), (2, v0), (3, v2), (4, v4), (5, v6), (6, .nili), (7, .nils), (8, v9), (9, .bad), (10, .bad), (11, .bad), (12, .bad), (13, .bad), (15, .bad), (16, .bad), (23, .bad), (40, .bad), (57, .bad), (65, .bad), (66, .bad), (67, .bad), (68, .bad), (72, .bad)] H7 false fun L10 H11 => loopM I n0 444 (fun L12 H13 e14 k15 =>
 I.fa 359 1 (lookQ L12 2) fun v16 =>
 I.fa 24 2 v16 fun v17 =>
 I.load 3 H13 v17 fun v18 =>
 I.bin .lss 3 false (lookQ L12 8) v18 fun v19 =>
 I.cond v19 (
 I.fa 359 0 (lookQ L12 2) fun v20 =>
 I.load 36 H13 v20 fun v21 =>
 I.fa 359 1 (lookQ L12 2) fun v22 =>
 I.load 24 H13 v22 fun v23 =>
 I.fa 30 0 (lookQ L12 3) fun v24 =>
 I.load 3 H13 v24 fun v25 =>
 KK 171 [v23, v25] H13 fun v26 H27 f28 => (fun e29 =>
 I.bin .add 3 false v26 (lookQ L12 8) fun v30 =>
 KK 172 [v21, v30] H27 fun v31 H32 f33 => (fun e34 =>
 I.ext v31 0 fun v35 =>
 I.ext v31 1 fun v36 =>
 I.alloc 269 H32 fun v37 H38 =>
 I.bare H38 (
 I.store n0 269 H38 v37 v35 fun H39 f40 => (fun e41 =>
 I.load 36 H27 v20 fun v42 =>
 I.same v42 v21 (
 I.bin .neq 33 true v36 (.int .i64 0) fun v43 =>
 I.cond v43 (
 I.build 260 [] fun v44 =>
 I.load 30 H39 (lookQ L12 3) fun v45 =>
 KK 153 [v36, (.str ⟨#[114, 101, 97, 100]⟩)] H39 fun v46 H47 f48 => (fun e49 =>
 I.store n0 260 H47 (lookQ L12 4) v44 fun H50 f51 => (fun e52 =>
 I.store n0 30 H50 (lookQ L12 5) v45 fun H53 f54 => (fun e55 =>
 I.load 30 H47 (lookQ L12 3) fun v56 =>
 I.same v56 v45 (
 I.load 30 H50 (lookQ L12 3) fun v57 =>
 I.same v57 v45 (
 k15 .ret [(0, (lookQ L12 0)), (1, (lookQ L12 1)), (2, (lookQ L12 2)), (3, (lookQ L12 3)), (4, (lookQ L12 4)), (5, (lookQ L12 5)), (6, v46), (7, (lookQ L12 7)), (8, (lookQ L12 8)), (9, v37), (10, v36), (11, (lookQ L12 11)), (12, (lookQ L12 12)), (13, (lookQ L12 13)), (15, (lookQ L12 15)), (16, (lookQ L12 16)), (23, v19), (40, v43), (57, (lookQ L12 57)), (65, (lookQ L12 65)), (66, (lookQ L12 66)), (67, (lookQ L12 67)), (68, (lookQ L12 68)), (72, (lookQ L12 72))] H53 e55))) (escQ f54 e52)) (escQ f51 e49)) (escQ f48 e41)) (
 I.load 269 H39 v37 fun v58 =>
 I.bslice 141 1 [(0, v58)] H39 fun v59 H60 =>
 I.blt true .append #[141, 141] n0 [(lookQ L12 7), v59] H60 fun v61 H62 f63 => (fun e64 =>
 I.bin .add 3 true (lookQ L12 8) (.int .i64 1) fun v65 =>
 k15 .normal [(0, (lookQ L12 0)), (1, (lookQ L12 1)), (2, (lookQ L12 2)), (3, (lookQ L12 3)), (4, (lookQ L12 4)), (5, (lookQ L12 5)), (6, (lookQ L12 6)), (7, v61), (8, v65), (9, v37), (10, v36), (11, (lookQ L12 11)), (12, (lookQ L12 12)), (13, (lookQ L12 13)), (15, (lookQ L12 15)), (16, (lookQ L12 16)), (23, v19), (40, v43), (57, (lookQ L12 57)), (65, (lookQ L12 65)), (66, (lookQ L12 66)), (67, (lookQ L12 67)), (68, (lookQ L12 68)), (72, (lookQ L12 72))] H62 e64) (escQ f63 e41)))) (escQ f40 e34))) (escQ f33 e29)) (escQ f28 e14)) (
 k15 (.exit 0) [(0, (lookQ L12 0)), (1, (lookQ L12 1)), (2, (lookQ L12 2)), (3, (lookQ L12 3)), (4, (lookQ L12 4)), (5, (lookQ L12 5)), (6, (lookQ L12 6)), (7, (lookQ L12 7)), (8, (lookQ L12 8)), (9, (lookQ L12 9)), (10, (lookQ L12 10)), (11, (lookQ L12 11)), (12, (lookQ L12 12)), (13, (lookQ L12 13)), (15, (lookQ L12 15)), (16, (lookQ L12 16)), (23, v19), (40, (lookQ L12 40)), (57, (lookQ L12 57)), (65, (lookQ L12 65)), (66, (lookQ L12 66)), (67, (lookQ L12 67)), (68, (lookQ L12 68)), (72, (lookQ L12 72))] H13 e14)) fuel L10 H11 false (selK I.bot [(0, (fun L66 H67 e68 =>
 I.fa 30 2 (lookQ L66 3) fun v69 =>
 I.load 22 H67 v69 fun v70 =>
 KK 309 [v70, (lookQ L66 7)] H67 fun v71 H72 f73 => (fun e74 =>
 I.ext v71 0 fun v75 =>
 I.ext v71 1 fun v76 =>
 I.alloc 445 H72 fun v77 H78 =>
 I.store n0 445 H78 v77 v75 fun H79 f80 => (fun e81 =>
 I.un .not v76 fun v82 =>
 I.cond v82 (
 I.build 260 [] fun v83 =>
 I.load 30 H79 (lookQ L66 3) fun v84 =>
 KK 153 [(.int .i64 17), (.str ⟨#[103, 114, 111, 117, 112]⟩)] H79 fun v85 H86 f87 => (fun e88 =>
 I.store n0 260 H86 (lookQ L66 4) v83 fun H89 f90 => (fun e91 =>
 I.store n0 30 H89 (lookQ L66 5) v84 fun H92 f93 => (fun e94 =>
 I.load 30 H86 (lookQ L66 3) fun v95 =>
 I.same v95 v84 (
 I.load 30 H89 (lookQ L66 3) fun v96 =>
 I.same v96 v84 (
 I.load 260 H92 (lookQ L66 4) fun v97 =>
 I.load 30 H92 (lookQ L66 5) fun v98 =>
 I.fin n0 H92 e94 [v97, v98, v85] k))) (escQ f93 e91)) (escQ f90 e88)) (escQ f87 e81)) (
 I.fa 445 0 v77 fun v99 =>
 I.load 162 H79 v99 fun v100 =>
 I.build 260 [(0, v100)] fun v101 =>
 I.alloc 260 H79 fun v102 H103 =>
 I.store n0 260 H103 v102 v101 fun H104 f105 => (fun e106 =>
 I.fa 445 1 v77 fun v107 =>
 I.load 28 H104 v107 fun v108 =>
 I.len v108 fun v109 =>
 I.head n0 258254417031933732924 [(0, (lookQ L66 0)), (1, (lookQ L66 1)), (2, (lookQ L66 2)), (3, (lookQ L66 3)), (4, (lookQ L66 4)), (5, (lookQ L66 5)), (6, (lookQ L66 6)), (7, (lookQ L66 7)), (8, (lookQ L66 8)), (9, (lookQ L66 9)), (10, (lookQ L66 10)), (11, v77), (12, v76), (13, v102), (15, (lookQ L66 15)), (16, (lookQ L66 16)), (23, (lookQ L66 23)), (40, (lookQ L66 40)), (57, v82), (65, v108), (66, v109), (67, (.int .i64 0)), (68, (lookQ L66 68)), (72, (lookQ L66 72))] H104 e106 fun L110 H111 => loopM I n0 258254417031933732924 (fun L112 H113 e114 k115 =>
 I.bin .lss 3 false (lookQ L112 67) (lookQ L112 66) fun v116 =>
 I.cond v116 (
 I.ia 28 (lookQ L112 65) (lookQ L112 67) fun v117 =>
 I.load 3 H113 v117 fun v118 =>
 I.join (fun L119 H120 e121 =>
 I.fa 260 1 (lookQ L119 13) fun v122 =>
 I.load 28 H120 v122 fun v123 =>
 I.bslice 28 1 [(0, (lookQ L119 16))] H120 fun v124 H125 =>
 I.blt true .append #[28, 28] n0 [v123, v124] H125 fun v126 H127 f128 => (fun e129 =>
 I.fa 260 1 (lookQ L119 13) fun v130 =>
 I.store n0 28 H127 v130 v126 fun H131 f132 => (fun e133 =>
 I.bin .add 3 true (lookQ L119 67) (.int .i64 1) fun v134 =>
 k115 .normal [(0, (lookQ L119 0)), (1, (lookQ L119 1)), (2, (lookQ L119 2)), (3, (lookQ L119 3)), (4, (lookQ L119 4)), (5, (lookQ L119 5)), (6, (lookQ L119 6)), (7, (lookQ L119 7)), (8, (lookQ L119 8)), (9, (lookQ L119 9)), (10, (lookQ L119 10)), (11, (lookQ L119 11)), (12, (lookQ L119 12)), (13, (lookQ L119 13)), (15, (lookQ L119 15)), (16, (lookQ L119 16)), (23, (lookQ L119 23)), (40, (lookQ L119 40)), (57, (lookQ L119 57)), (65, (lookQ L119 65)), (66, (lookQ L119 66)), (67, v134), (68, (lookQ L119 68)), (72, (lookQ L119 72))] H131 e133) (escQ f132 e129)) (escQ f128 e121)) fun j135 =>
 I.bin .geq 3 true v118 (.int .i64 0) fun v136 =>
 I.cond v136 (
 I.fa 359 1 (lookQ L112 2) fun v137 =>
 I.load 24 H113 v137 fun v138 =>
 I.fa 30 0 (lookQ L112 3) fun v139 =>
 I.load 3 H113 v139 fun v140 =>
 I.fa 30 1 (lookQ L112 3) fun v141 =>
 I.load 3 H113 v141 fun v142 =>
 KK 171 [v138, v140] H113 fun v143 H144 f145 => (fun e146 =>
 I.bin .add 3 false v143 v142 fun v147 =>
 I.bin .add 3 false v147 v118 fun v148 =>
 I.load 3 H144 v141 fun v149 =>
 I.same v149 v142 (
 j135 [(0, (lookQ L112 0)), (1, (lookQ L112 1)), (2, (lookQ L112 2)), (3, (lookQ L112 3)), (4, (lookQ L112 4)), (5, (lookQ L112 5)), (6, (lookQ L112 6)), (7, (lookQ L112 7)), (8, (lookQ L112 8)), (9, (lookQ L112 9)), (10, (lookQ L112 10)), (11, (lookQ L112 11)), (12, (lookQ L112 12)), (13, (lookQ L112 13)), (15, v118), (16, v148), (23, (lookQ L112 23)), (40, (lookQ L112 40)), (57, (lookQ L112 57)), (65, (lookQ L112 65)), (66, (lookQ L112 66)), (67, (lookQ L112 67)), (68, v116), (72, v136)] H144 e146)) (escQ f145 e114)) (
 j135 [(0, (lookQ L112 0)), (1, (lookQ L112 1)), (2, (lookQ L112 2)), (3, (lookQ L112 3)), (4, (lookQ L112 4)), (5, (lookQ L112 5)), (6, (lookQ L112 6)), (7, (lookQ L112 7)), (8, (lookQ L112 8)), (9, (lookQ L112 9)), (10, (lookQ L112 10)), (11, (lookQ L112 11)), (12, (lookQ L112 12)), (13, (lookQ L112 13)), (15, v118), (16, (.int .i64 0)), (23, (lookQ L112 23)), (40, (lookQ L112 40)), (57, (lookQ L112 57)), (65, (lookQ L112 65)), (66, (lookQ L112 66)), (67, (lookQ L112 67)), (68, v116), (72, v136)] H113 e114)) (
 k115 (.exit 2) [(0, (lookQ L112 0)), (1, (lookQ L112 1)), (2, (lookQ L112 2)), (3, (lookQ L112 3)), (4, (lookQ L112 4)), (5, (lookQ L112 5)), (6, (lookQ L112 6)), (7, (lookQ L112 7)), (8, (lookQ L112 8)), (9, (lookQ L112 9)), (10, (lookQ L112 10)), (11, (lookQ L112 11)), (12, (lookQ L112 12)), (13, (lookQ L112 13)), (15, (lookQ L112 15)), (16, (lookQ L112 16)), (23, (lookQ L112 23)), (40, (lookQ L112 40)), (57, (lookQ L112 57)), (65, (lookQ L112 65)), (66, (lookQ L112 66)), (67, (lookQ L112 67)), (68, v116), (72, (lookQ L112 72))] H113 e114)) fuel L110 H111 e106 (selK I.bot [(2, (fun L150 H151 e152 =>
 I.fa 30 1 (lookQ L150 3) fun v153 =>
 I.load 3 H151 v153 fun v154 =>
 I.fa 445 2 (lookQ L150 11) fun v155 =>
 I.load 3 H151 v155 fun v156 =>
 I.bin .add 3 false v154 v156 fun v157 =>
 I.fa 30 1 (lookQ L150 3) fun v158 =>
 I.store n0 3 H151 v158 v157 fun H159 f160 => (fun e161 =>
 I.fa 30 2 (lookQ L150 3) fun v162 =>
 I.load 22 H159 v162 fun v163 =>
 I.fa 445 3 (lookQ L150 11) fun v164 =>
 I.load 3 H159 v164 fun v165 =>
 I.conv 3 22 v165 H159 fun v166 H167 =>
 I.bin .add 22 false v163 v166 fun v168 =>
 I.fa 30 2 (lookQ L150 3) fun v169 =>
 I.store n0 22 H167 v169 v168 fun H170 f171 => (fun e172 =>
 I.load 260 H170 (lookQ L150 13) fun v173 =>
 I.load 30 H170 (lookQ L150 3) fun v174 =>
 I.store n0 260 H170 (lookQ L150 4) v173 fun H175 f176 => (fun e177 =>
 I.store n0 30 H175 (lookQ L150 5) v174 fun H178 f179 => (fun e180 =>
 I.load 30 H175 (lookQ L150 3) fun v181 =>
 I.same v181 v174 (
 I.load 260 H178 (lookQ L150 4) fun v182 =>
 I.load 30 H178 (lookQ L150 5) fun v183 =>
 I.fin n0 H178 e180 [v182, v183, .nili] k)) (escQ f179 e177)) (escQ f176 e172)) (escQ f171 e161)) (escQ f160 e152)))] (fun _ _ _ => I.bot))) (escQ f105 e81))) (escQ f80 e74)) (escQ f73 e68)))] (fun L184 H185 e186 =>
 I.load 260 H185 (lookQ L184 4) fun v187 =>
 I.load 30 H185 (lookQ L184 5) fun v188 =>
 I.fin n0 H185 e186 [v187, v188, (lookQ L184 6)] k))) (lenQ H)
  | _ => I.bot⟩
theorem ok283 (R : Type) : TxtOk Tryz.prog U ann 283 (r283 R) := fun I fuel KO KK args H k => match args with
  | [] => .inl rfl
  | [_] => .inl rfl
  | [a0, a1] => .inr (by kernel_rfl)
  | _ :: _ :: _ :: _ => .inl rfl
/-- silt/region.roots -/
noncomputable def r288 (R : Type) : Bx (Txt R) := ⟨fun I fuel KO KK args H k => match args with
  | [a0] => (fun n0 =>
 I.box a0 H fun v0 H1 =>
 I.fa 27 5 v0 fun v2 =>
 I.load 25 H1 v2 fun v3 =>
 I.head n0 1538 [(0, a0), (1, v0), (2, .nili), (3, .bad), (4, .bad), (7, .bad), (9, v3), (10, (.int .i64 0)), (11, .bad), (34, .bad)] H1 false fun L4 H5 => loopM I n0 1538 (fun L6 H7 e8 k9 =>
 I.bin .lss 3 true (lookQ L6 10) (.int .i64 8) fun v10 =>
 I.cond v10 (
 I.idx 25 (lookQ L6 9) (lookQ L6 10) fun v11 =>
 I.fa 27 1 (lookQ L6 1) fun v12 =>
 I.load 24 H7 v12 fun v13 =>
 KK 183 [v13, v11] H7 fun v14 H15 f16 => (fun e17 =>
 I.ext v14 0 fun v18 =>
 I.ext v14 1 fun v19 =>
 I.ext v14 2 fun v20 =>
 I.bin .neq 3 true v11 (.int .i64 0) fun v21 =>
 I.gd v21 true (fun K22 => K22 v20 H15 e17) H15 e17 fun v23 H24 e25 =>
 I.gd v21 true (fun K26 => I.un .not v23 fun v30 =>
 K26 v30 H24 e25) H24 e25 fun v27 H28 e29 =>
 I.gd v21 true (fun K31 => K31 v27 H28 e29) H28 e29 fun v32 H33 e34 =>
 I.gd v32 false (fun K35 => K35 (lookQ L6 10) H33 e34) H33 e34 fun v36 H37 e38 =>
 I.gd v32 false (fun K39 => I.fa 27 1 (lookQ L6 1) fun v43 =>
 K39 v43 H37 e38) H37 e38 fun v40 H41 e42 =>
 I.gd v32 false (fun K44 => I.load 24 H41 v40 fun v48 =>
 K44 v48 H41 e42) H41 e42 fun v45 H46 e47 =>
 I.gd v32 false (fun K49 => KK 96 [v45] H46 fun v53 H54 f55 => (fun e56 =>
 K49 v53 H54 e56) (escQ f55 e47)) H46 e47 fun v50 H51 e52 =>
 I.gd v32 false (fun K57 => I.bin .geq 3 false v36 v50 fun v61 =>
 K57 v61 H51 e52) H51 e52 fun v58 H59 e60 =>
 I.gd v21 true (fun K62 => I.pick v32 (.bool true) v58 fun v66 =>
 K62 v66 H59 e60) H59 e60 fun v63 H64 e65 =>
 I.pick v21 v63 (.bool false) fun v67 =>
 I.cond v67 (
 KK 153 [(.int .i64 11), (.str ⟨#[114, 111, 111, 116]⟩)] H64 fun v68 H69 f70 => (fun e71 =>
 k9 .ret [(0, (lookQ L6 0)), (1, (lookQ L6 1)), (2, v68), (3, (lookQ L6 10)), (4, v11), (7, v20), (9, (lookQ L6 9)), (10, (lookQ L6 10)), (11, v10), (34, v67)] H69 e71) (escQ f70 e65)) (
 I.bin .add 3 true (lookQ L6 10) (.int .i64 1) fun v72 =>
 k9 .normal [(0, (lookQ L6 0)), (1, (lookQ L6 1)), (2, (lookQ L6 2)), (3, (lookQ L6 10)), (4, v11), (7, v20), (9, (lookQ L6 9)), (10, v72), (11, v10), (34, v67)] H64 e65)) (escQ f16 e8)) (
 k9 (.exit 0) [(0, (lookQ L6 0)), (1, (lookQ L6 1)), (2, (lookQ L6 2)), (3, (lookQ L6 3)), (4, (lookQ L6 4)), (7, (lookQ L6 7)), (9, (lookQ L6 9)), (10, (lookQ L6 10)), (11, v10), (34, (lookQ L6 34))] H7 e8)) fuel L4 H5 false (selK I.bot [(0, (fun L73 H74 e75 =>
 I.fin n0 H74 e75 [.nili] k))] (fun L76 H77 e78 =>
 I.fin n0 H77 e78 [(lookQ L76 2)] k))) (lenQ H)
  | _ => I.bot⟩
theorem ok288 (R : Type) : TxtOk Tryz.prog U ann 288 (r288 R) := fun I fuel KO KK args H k => match args with
  | [] => .inl rfl
  | [a0] => .inr (by kernel_rfl)
  | _ :: _ :: _ => .inl rfl
/-- slices.insertionSortOrdered[int] -/
noncomputable def r294 (R : Type) : Bx (Txt R) := ⟨fun I fuel KO KK args H k => match args with
  | [a0, a1, a2] => (fun n0 =>
 I.bin .add 3 true a1 (.int .i64 1) fun v0 =>
 I.head n0 71 [(0, a0), (1, a1), (2, a2), (6, v0), (7, .bad), (12, .bad), (30, .bad)] H false fun L1 H2 => loopM I n0 71 (fun L3 H4 e5 k6 =>
 I.bin .lss 3 false (lookQ L3 6) (lookQ L3 2) fun v7 =>
 I.cond v7 (
 I.head n0 199 [(0, (lookQ L3 0)), (1, (lookQ L3 1)), (2, (lookQ L3 2)), (6, (lookQ L3 6)), (7, (lookQ L3 6)), (12, v7), (30, (lookQ L3 30))] H4 e5 fun L8 H9 => loopM I n0 199 (fun L10 H11 e12 k13 =>
 I.bin .gtr 3 false (lookQ L10 7) (lookQ L10 1) fun v14 =>
 I.gd v14 true (fun K15 => K15 (lookQ L10 0) H11 e12) H11 e12 fun v16 H17 e18 =>
 I.gd v14 true (fun K19 => K19 (lookQ L10 7) H17 e18) H17 e18 fun v20 H21 e22 =>
 I.gd v14 true (fun K23 => I.ia 28 v16 v20 fun v27 =>
 K23 v27 H21 e22) H21 e22 fun v24 H25 e26 =>
 I.gd v14 true (fun K28 => I.load 3 H25 v24 fun v32 =>
 K28 v32 H25 e26) H25 e26 fun v29 H30 e31 =>
 I.gd v14 true (fun K33 => K33 (lookQ L10 0) H30 e31) H30 e31 fun v34 H35 e36 =>
 I.gd v14 true (fun K37 => K37 (lookQ L10 7) H35 e36) H35 e36 fun v38 H39 e40 =>
 I.gd v14 true (fun K41 => I.bin .sub 3 true v38 (.int .i64 1) fun v45 =>
 K41 v45 H39 e40) H39 e40 fun v42 H43 e44 =>
 I.gd v14 true (fun K46 => I.ia 28 v34 v42 fun v50 =>
 K46 v50 H43 e44) H43 e44 fun v47 H48 e49 =>
 I.gd v14 true (fun K51 => I.load 3 H48 v47 fun v55 =>
 K51 v55 H48 e49) H48 e49 fun v52 H53 e54 =>
 I.gd v14 true (fun K56 => KK 300 [v29, v52] H53 fun v60 H61 f62 => (fun e63 =>
 K56 v60 H61 e63) (escQ f62 e54)) H53 e54 fun v57 H58 e59 =>
 I.pick v14 v57 (.bool false) fun v64 =>
 I.cond v64 (
 I.bin .sub 3 true (lookQ L10 7) (.int .i64 1) fun v65 =>
 I.bin .sub 3 true (lookQ L10 7) (.int .i64 1) fun v66 =>
 I.ia 28 (lookQ L10 0) v66 fun v67 =>
 I.load 3 H58 v67 fun v68 =>
 I.ia 28 (lookQ L10 0) (lookQ L10 7) fun v69 =>
 I.load 3 H58 v69 fun v70 =>
 I.ia 28 (lookQ L10 0) (lookQ L10 7) fun v71 =>
 I.store n0 3 H58 v71 v68 fun H72 f73 => (fun e74 =>
 I.ia 28 (lookQ L10 0) v65 fun v75 =>
 I.store n0 3 H72 v75 v70 fun H76 f77 => (fun e78 =>
 I.bin .sub 3 true (lookQ L10 7) (.int .i64 1) fun v79 =>
 k13 .normal [(0, (lookQ L10 0)), (1, (lookQ L10 1)), (2, (lookQ L10 2)), (6, (lookQ L10 6)), (7, v79), (12, (lookQ L10 12)), (30, v64)] H76 e78) (escQ f77 e74)) (escQ f73 e59)) (
 k13 (.exit 2) [(0, (lookQ L10 0)), (1, (lookQ L10 1)), (2, (lookQ L10 2)), (6, (lookQ L10 6)), (7, (lookQ L10 7)), (12, (lookQ L10 12)), (30, v64)] H58 e59)) fuel L8 H9 e5 (selK I.bot [(2, (fun L80 H81 e82 =>
 I.bin .add 3 true (lookQ L80 6) (.int .i64 1) fun v83 =>
 k6 .normal [(0, (lookQ L80 0)), (1, (lookQ L80 1)), (2, (lookQ L80 2)), (6, v83), (7, (lookQ L80 7)), (12, (lookQ L80 12)), (30, (lookQ L80 30))] H81 e82))] (fun _ _ _ => I.bot))) (
 k6 (.exit 0) [(0, (lookQ L3 0)), (1, (lookQ L3 1)), (2, (lookQ L3 2)), (6, (lookQ L3 6)), (7, (lookQ L3 7)), (12, v7), (30, (lookQ L3 30))] H4 e5)) fuel L1 H2 false (selK I.bot [(0, (fun L84 H85 e86 =>
 I.fin n0 H85 e86 [] k)), (2, (fun L87 H88 e89 =>
 I.bot))] (fun _ _ _ => I.bot))) (lenQ H)
  | _ => I.bot⟩
theorem ok294 (R : Type) : TxtOk Tryz.prog U ann 294 (r294 R) := fun I fuel KO KK args H k => match args with
  | [] => .inl rfl
  | [_] => .inl rfl
  | [_, _] => .inl rfl
  | [a0, a1, a2] => .inr (by kernel_rfl)
  | _ :: _ :: _ :: _ :: _ => .inl rfl
/-- math/bits.Len64 -/
noncomputable def r304 (R : Type) : Bx (Txt R) := ⟨fun I fuel KO KK args H k => match args with
  | [a0] => (fun n0 =>
 I.join (fun L0 H1 e2 =>
 I.join (fun L3 H4 e5 =>
 I.join (fun L6 H7 e8 =>
 I.conv 397 5 (lookQ L6 0) H7 fun v9 H10 =>
 I.idx 9 (.str ⟨#[0, 1, 2, 2, 3, 3, 3, 3, 4, 4, 4, 4, 4, 4, 4, 4, 5, 5, 5, 5, 5, 5, 5, 5, 5, 5, 5, 5, 5, 5, 5, 5, 6, 6, 6, 6, 6, 6, 6, 6, 6, 6, 6, 6, 6, 6, 6, 6, 6, 6, 6, 6, 6, 6, 6, 6, 6, 6, 6, 6, 6, 6, 6, 6, 7, 7, 7, 7, 7, 7, 7, 7, 7, 7, 7, 7, 7, 7, 7, 7, 7, 7, 7, 7, 7, 7, 7, 7, 7, 7, 7, 7, 7, 7, 7, 7, 7, 7, 7, 7, 7, 7, 7, 7, 7, 7, 7, 7, 7, 7, 7, 7, 7, 7, 7, 7, 7, 7, 7, 7, 7, 7, 7, 7, 7, 7, 7, 7, 8, 8, 8, 8, 8, 8, 8, 8, 8, 8, 8, 8, 8, 8, 8, 8, 8, 8, 8, 8, 8, 8, 8, 8, 8, 8, 8, 8, 8, 8, 8, 8, 8, 8, 8, 8, 8, 8, 8, 8, 8, 8, 8, 8, 8, 8, 8, 8, 8, 8, 8, 8, 8, 8, 8, 8, 8, 8, 8, 8, 8, 8, 8, 8, 8, 8, 8, 8, 8, 8, 8, 8, 8, 8, 8, 8, 8, 8, 8, 8, 8, 8, 8, 8, 8, 8, 8, 8, 8, 8, 8, 8, 8, 8, 8, 8, 8, 8, 8, 8, 8, 8, 8, 8, 8, 8, 8, 8, 8, 8, 8, 8, 8, 8, 8, 8, 8, 8, 8, 8, 8, 8, 8, 8, 8, 8, 8, 8]⟩) v9 fun v11 =>
 I.conv 5 3 v11 H10 fun v12 H13 =>
 I.bin .add 3 false (lookQ L6 2) v12 fun v14 =>
 I.fin n0 H13 e8 [v14] k) fun j15 =>
 I.bin .geq 397 true (lookQ L3 0) (.int .u64 256) fun v16 =>
 I.cond v16 (
 I.bin .shr 397 true (lookQ L3 0) (.int .u64 8) fun v17 =>
 I.bin .add 3 true (lookQ L3 2) (.int .i64 8) fun v18 =>
 j15 [(0, v17), (2, v18), (4, (lookQ L3 4)), (8, (lookQ L3 8)), (14, v16)] H4 e5) (
 j15 [(0, (lookQ L3 0)), (2, (lookQ L3 2)), (4, (lookQ L3 4)), (8, (lookQ L3 8)), (14, v16)] H4 e5)) fun j19 =>
 I.bin .geq 397 true (lookQ L0 0) (.int .u64 65536) fun v20 =>
 I.cond v20 (
 I.bin .shr 397 true (lookQ L0 0) (.int .u64 16) fun v21 =>
 I.bin .add 3 true (lookQ L0 2) (.int .i64 16) fun v22 =>
 j19 [(0, v21), (2, v22), (4, (lookQ L0 4)), (8, v20), (14, (lookQ L0 14))] H1 e2) (
 j19 [(0, (lookQ L0 0)), (2, (lookQ L0 2)), (4, (lookQ L0 4)), (8, v20), (14, (lookQ L0 14))] H1 e2)) fun j23 =>
 I.bin .geq 397 true a0 (.int .u64 4294967296) fun v24 =>
 I.cond v24 (
 I.bin .shr 397 true a0 (.int .u64 32) fun v25 =>
 j23 [(0, v25), (2, (.int .i64 32)), (4, v24), (8, .bad), (14, .bad)] H false) (
 j23 [(0, a0), (2, (.int .i64 0)), (4, v24), (8, .bad), (14, .bad)] H false)) (lenQ H)
  | _ => I.bot⟩
theorem ok304 (R : Type) : TxtOk Tryz.prog U ann 304 (r304 R) := fun I fuel KO KK args H k => match args with
  | [] => .inl rfl
  | [a0] => .inr (by kernel_rfl)
  | _ :: _ :: _ => .inl rfl
/-- (*silt/pins.Pins).add -/
noncomputable def r305 (R : Type) : Bx (Txt R) := ⟨fun I fuel KO KK args H k => match args with
  | [a0, a1, a2] => (fun n0 =>
 KK 271 [a0, a1] H fun v0 H1 f2 => (fun e3 =>
 I.bin .neq 137 true v0 .nili fun v4 =>
 I.cond v4 (
 KK 86 [v0, (.str ⟨#[97, 100, 100]⟩)] H1 fun v5 H6 f7 => (fun e8 =>
 I.fin n0 H6 e8 [v5] k) (escQ f7 e3)) (
 I.bin .lss 3 true a2 (.int .i64 0) fun v9 =>
 I.gd v9 false (fun K10 => K10 a2 H1 e3) H1 e3 fun v11 H12 e13 =>
 I.gd v9 false (fun K14 => I.bin .geq 3 true v11 (.int .i64 64) fun v18 =>
 K14 v18 H12 e13) H12 e13 fun v15 H16 e17 =>
 I.pick v9 (.bool true) v15 fun v19 =>
 I.cond v19 (
 KK 153 [(.int .i64 16), (.str ⟨#[97, 100, 100]⟩)] H16 fun v20 H21 f22 => (fun e23 =>
 I.fin n0 H21 e23 [v20] k) (escQ f22 e17)) (
 I.nil a0 fun v24 =>
 I.fa 213 0 v24 fun v25 =>
 I.load 211 H16 v25 fun v26 =>
 I.ia 211 v26 a1 fun v27 =>
 I.load 28 H16 v27 fun v28 =>
 I.len v28 fun v29 =>
 I.bin .geq 3 true v29 (.int .i64 16) fun v30 =>
 I.cond v30 (
 KK 153 [(.int .i64 19), (.str ⟨#[97, 100, 100]⟩)] H16 fun v31 H32 f33 => (fun e34 =>
 I.fin n0 H32 e34 [v31] k) (escQ f33 e17)) (
 I.fin n0 H16 e17 [.nili] k)))) (escQ f2 false)) (lenQ H)
  | _ => I.bot⟩
theorem ok305 (R : Type) : TxtOk Tryz.prog U ann 305 (r305 R) := fun I fuel KO KK args H k => match args with
  | [] => .inl rfl
  | [_] => .inl rfl
  | [_, _] => .inl rfl
  | [a0, a1, a2] => .inr (by kernel_rfl)
  | _ :: _ :: _ :: _ :: _ => .inl rfl
/-- silt/region.get -/
noncomputable def r307 (R : Type) : Bx (Txt R) := ⟨fun I fuel KO KK args H k => match args with
  | [a0] => (fun n0 =>
 I.ia 65 a0 (.int .i64 0) fun v0 =>
 I.load 5 H v0 fun v1 =>
 I.conv 5 22 v1 H fun v2 H3 =>
 I.ia 65 a0 (.int .i64 1) fun v4 =>
 I.load 5 H3 v4 fun v5 =>
 I.conv 5 22 v5 H3 fun v6 H7 =>
 I.bin .shl 22 true v6 (.int .u64 8) fun v8 =>
 I.bin .or 22 false v2 v8 fun v9 =>
 I.ia 65 a0 (.int .i64 2) fun v10 =>
 I.load 5 H7 v10 fun v11 =>
 I.conv 5 22 v11 H7 fun v12 H13 =>
 I.bin .shl 22 true v12 (.int .u64 16) fun v14 =>
 I.bin .or 22 false v9 v14 fun v15 =>
 I.ia 65 a0 (.int .i64 3) fun v16 =>
 I.load 5 H13 v16 fun v17 =>
 I.conv 5 22 v17 H13 fun v18 H19 =>
 I.bin .shl 22 true v18 (.int .u64 24) fun v20 =>
 I.bin .or 22 false v15 v20 fun v21 =>
 I.fin n0 H19 false [v21] k) (lenQ H)
  | _ => I.bot⟩
theorem ok307 (R : Type) : TxtOk Tryz.prog U ann 307 (r307 R) := fun I fuel KO KK args H k => match args with
  | [] => .inl rfl
  | [a0] => .inr (by kernel_rfl)
  | _ :: _ :: _ => .inl rfl
/-- silt/group.Read -/
noncomputable def r309 (R : Type) : Bx (Txt R) := ⟨fun I fuel KO KK args H k => match args with
  | [a0, a1] => (fun n0 =>
 I.alloc 445 H fun v0 H1 =>
 I.alloc 445 H1 fun v2 H3 =>
 I.head n0 211 [(0, a0), (1, a1), (4, v0), (5, (.bool false)), (6, v2), (7, (.bool true)), (8, .bad), (9, .bad), (10, .bad), (11, .bad), (12, .bad), (13, .bad), (14, .bad), (15, .bad), (16, .bad), (17, .bad), (47, .bad), (76, .bad), (78, .bad), (79, .bad), (80, .bad), (81, .bad), (90, .bad)] H3 false fun L4 H5 => loopM I n0 211 (fun L6 H7 e8 k9 =>
 I.cond (lookQ L6 7) (
 I.fa 445 3 (lookQ L6 6) fun v10 =>
 I.load 3 H7 v10 fun v11 =>
 I.conv 3 22 v11 H7 fun v12 H13 =>
 I.bin .add 22 false (lookQ L6 0) v12 fun v14 =>
 I.fa 445 2 (lookQ L6 6) fun v15 =>
 I.load 3 H13 v15 fun v16 =>
 I.slice 141 H13 (lookQ L6 1) (some v16) none fun v17 =>
 KK 323 [v14, v17] H13 fun v18 H19 f20 => (fun e21 =>
 I.ext v18 0 fun v22 =>
 I.ext v18 1 fun v23 =>
 I.ext v18 2 fun v24 =>
 I.ext v18 3 fun v25 =>
 I.un .not v25 fun v26 =>
 I.gd v26 false (fun K27 => K27 v22 H19 e21) H19 e21 fun v28 H29 e30 =>
 I.gd v26 false (fun K31 => I.len v28 fun v35 =>
 K31 v35 H29 e30) H29 e30 fun v32 H33 e34 =>
 I.gd v26 false (fun K36 => I.fa 445 0 (lookQ L6 6) fun v40 =>
 K36 v40 H33 e34) H33 e34 fun v37 H38 e39 =>
 I.gd v26 false (fun K41 => I.load 162 H38 v37 fun v45 =>
 K41 v45 H38 e39) H38 e39 fun v42 H43 e44 =>
 I.gd v26 false (fun K46 => I.len v42 fun v50 =>
 K46 v50 H43 e44) H43 e44 fun v47 H48 e49 =>
 I.gd v26 false (fun K51 => I.bin .sub 3 true (.int .i64 64) v47 fun v55 =>
 K51 v55 H48 e49) H48 e49 fun v52 H53 e54 =>
 I.gd v26 false (fun K56 => I.bin .gtr 3 false v32 v52 fun v60 =>
 K56 v60 H53 e54) H53 e54 fun v57 H58 e59 =>
 I.pick v26 (.bool true) v57 fun v61 =>
 I.cond v61 (
 I.build 445 [] fun v62 =>
 I.store n0 445 H58 (lookQ L6 4) v62 fun H63 f64 => (fun e65 =>
 k9 .ret [(0, (lookQ L6 0)), (1, (lookQ L6 1)), (4, (lookQ L6 4)), (5, (.bool false)), (6, (lookQ L6 6)), (7, (lookQ L6 7)), (8, v22), (9, v23), (10, v24), (11, v25), (12, (lookQ L6 12)), (13, (lookQ L6 13)), (14, (lookQ L6 14)), (15, (lookQ L6 15)), (16, (lookQ L6 16)), (17, (lookQ L6 7)), (47, v61), (76, (lookQ L6 76)), (78, (lookQ L6 78)), (79, (lookQ L6 79)), (80, (lookQ L6 80)), (81, (lookQ L6 81)), (90, (lookQ L6 90))] H63 e65) (escQ f64 e59)) (
 I.fa 445 0 (lookQ L6 6) fun v66 =>
 I.load 162 H58 v66 fun v67 =>
 I.blt true .append #[162, 162] n0 [v67, v22] H58 fun v68 H69 f70 => (fun e71 =>
 I.fa 445 0 (lookQ L6 6) fun v72 =>
 I.store n0 162 H69 v72 v68 fun H73 f74 => (fun e75 =>
 I.fa 445 2 (lookQ L6 6) fun v76 =>
 I.load 3 H73 v76 fun v77 =>
 I.bin .add 3 false v77 v23 fun v78 =>
 I.fa 445 2 (lookQ L6 6) fun v79 =>
 I.store n0 3 H73 v79 v78 fun H80 f81 => (fun e82 =>
 I.fa 445 3 (lookQ L6 6) fun v83 =>
 I.load 3 H80 v83 fun v84 =>
 I.bin .add 3 true v84 (.int .i64 1) fun v85 =>
 I.fa 445 3 (lookQ L6 6) fun v86 =>
 I.store n0 3 H80 v86 v85 fun H87 f88 => (fun e89 =>
 k9 .normal [(0, (lookQ L6 0)), (1, (lookQ L6 1)), (4, (lookQ L6 4)), (5, (lookQ L6 5)), (6, (lookQ L6 6)), (7, v24), (8, v22), (9, v23), (10, v24), (11, v25), (12, (lookQ L6 12)), (13, (lookQ L6 13)), (14, (lookQ L6 14)), (15, (lookQ L6 15)), (16, (lookQ L6 16)), (17, (lookQ L6 7)), (47, v61), (76, (lookQ L6 76)), (78, (lookQ L6 78)), (79, (lookQ L6 79)), (80, (lookQ L6 80)), (81, (lookQ L6 81)), (90, (lookQ L6 90))] H87 e89) (escQ f88 e82)) (escQ f81 e75)) (escQ f74 e71)) (escQ f70 e59))) (escQ f20 e8)) (
 k9 (.exit 0) [(0, (lookQ L6 0)), (1, (lookQ L6 1)), (4, (lookQ L6 4)), (5, (lookQ L6 5)), (6, (lookQ L6 6)), (7, (lookQ L6 7)), (8, (lookQ L6 8)), (9, (lookQ L6 9)), (10, (lookQ L6 10)), (11, (lookQ L6 11)), (12, (lookQ L6 12)), (13, (lookQ L6 13)), (14, (lookQ L6 14)), (15, (lookQ L6 15)), (16, (lookQ L6 16)), (17, (lookQ L6 7)), (47, (lookQ L6 47)), (76, (lookQ L6 76)), (78, (lookQ L6 78)), (79, (lookQ L6 79)), (80, (lookQ L6 80)), (81, (lookQ L6 81)), (90, (lookQ L6 90))] H7 e8)) fuel L4 H5 false (selK I.bot [(0, (fun L90 H91 e92 =>
 I.fa 445 0 (lookQ L90 6) fun v93 =>
 I.load 162 H91 v93 fun v94 =>
 KK 242 [(lookQ L90 0), v94] H91 fun v95 H96 f97 => (fun e98 =>
 I.ext v95 0 fun v99 =>
 I.ext v95 1 fun v100 =>
 I.ext v95 2 fun v101 =>
 I.bin .neq 33 true v101 (.int .i64 0) fun v102 =>
 I.gd v102 false (fun K103 => K103 v99 H96 e98) H96 e98 fun v104 H105 e106 =>
 I.gd v102 false (fun K107 => I.len v104 fun v111 =>
 K107 v111 H105 e106) H105 e106 fun v108 H109 e110 =>
 I.gd v102 false (fun K112 => I.fa 445 2 (lookQ L90 6) fun v116 =>
 K112 v116 H109 e110) H109 e110 fun v113 H114 e115 =>
 I.gd v102 false (fun K117 => I.load 3 H114 v113 fun v121 =>
 K117 v121 H114 e115) H114 e115 fun v118 H119 e120 =>
 I.gd v102 false (fun K122 => I.bin .neq 3 false v108 v118 fun v126 =>
 K122 v126 H119 e120) H119 e120 fun v123 H124 e125 =>
 I.pick v102 (.bool true) v123 fun v127 =>
 I.cond v127 (
 I.build 445 [] fun v128 =>
 I.store n0 445 H124 (lookQ L90 4) v128 fun H129 f130 => (fun e131 =>
 I.load 445 H129 (lookQ L90 4) fun v132 =>
 I.fin n0 H129 e131 [v132, (.bool false)] k) (escQ f130 e125)) (
 I.len v99 fun v133 =>
 I.head n0 2115620184325601055744082 [(0, (lookQ L90 0)), (1, (lookQ L90 1)), (4, (lookQ L90 4)), (5, (lookQ L90 5)), (6, (lookQ L90 6)), (7, (lookQ L90 7)), (8, (lookQ L90 8)), (9, (lookQ L90 9)), (10, (lookQ L90 10)), (11, (lookQ L90 11)), (12, v99), (13, v100), (14, v101), (15, (lookQ L90 15)), (16, (lookQ L90 16)), (17, (lookQ L90 17)), (47, (lookQ L90 47)), (76, v127), (78, v99), (79, v133), (80, (.int .i64 0)), (81, (lookQ L90 81)), (90, (lookQ L90 90))] H124 e125 fun L134 H135 => loopM I n0 2115620184325601055744082 (fun L136 H137 e138 k139 =>
 I.bin .lss 3 false (lookQ L136 80) (lookQ L136 79) fun v140 =>
 I.cond v140 (
 I.ia 141 (lookQ L136 78) (lookQ L136 80) fun v141 =>
 I.load 269 H137 v141 fun v142 =>
 I.alloc 269 H137 fun v143 H144 =>
 I.store n0 269 H144 v143 v142 fun H145 f146 => (fun e147 =>
 I.load 269 H145 v143 fun v148 =>
 I.ia 141 (lookQ L136 1) (lookQ L136 80) fun v149 =>
 I.load 269 H145 v149 fun v150 =>
 I.bin .neq 269 false v148 v150 fun v151 =>
 I.cond v151 (
 I.build 445 [] fun v152 =>
 I.store n0 445 H145 (lookQ L136 4) v152 fun H153 f154 => (fun e155 =>
 k139 .ret [(0, (lookQ L136 0)), (1, (lookQ L136 1)), (4, (lookQ L136 4)), (5, (.bool false)), (6, (lookQ L136 6)), (7, (lookQ L136 7)), (8, (lookQ L136 8)), (9, (lookQ L136 9)), (10, (lookQ L136 10)), (11, (lookQ L136 11)), (12, (lookQ L136 12)), (13, (lookQ L136 13)), (14, (lookQ L136 14)), (15, (lookQ L136 80)), (16, v143), (17, (lookQ L136 17)), (47, (lookQ L136 47)), (76, (lookQ L136 76)), (78, (lookQ L136 78)), (79, (lookQ L136 79)), (80, (lookQ L136 80)), (81, v140), (90, v151)] H153 e155) (escQ f154 e147)) (
 I.bin .add 3 true (lookQ L136 80) (.int .i64 1) fun v156 =>
 k139 .normal [(0, (lookQ L136 0)), (1, (lookQ L136 1)), (4, (lookQ L136 4)), (5, (lookQ L136 5)), (6, (lookQ L136 6)), (7, (lookQ L136 7)), (8, (lookQ L136 8)), (9, (lookQ L136 9)), (10, (lookQ L136 10)), (11, (lookQ L136 11)), (12, (lookQ L136 12)), (13, (lookQ L136 13)), (14, (lookQ L136 14)), (15, (lookQ L136 80)), (16, v143), (17, (lookQ L136 17)), (47, (lookQ L136 47)), (76, (lookQ L136 76)), (78, (lookQ L136 78)), (79, (lookQ L136 79)), (80, v156), (81, v140), (90, v151)] H145 e147)) (escQ f146 e138)) (
 k139 (.exit 2) [(0, (lookQ L136 0)), (1, (lookQ L136 1)), (4, (lookQ L136 4)), (5, (lookQ L136 5)), (6, (lookQ L136 6)), (7, (lookQ L136 7)), (8, (lookQ L136 8)), (9, (lookQ L136 9)), (10, (lookQ L136 10)), (11, (lookQ L136 11)), (12, (lookQ L136 12)), (13, (lookQ L136 13)), (14, (lookQ L136 14)), (15, (lookQ L136 15)), (16, (lookQ L136 16)), (17, (lookQ L136 17)), (47, (lookQ L136 47)), (76, (lookQ L136 76)), (78, (lookQ L136 78)), (79, (lookQ L136 79)), (80, (lookQ L136 80)), (81, v140), (90, (lookQ L136 90))] H137 e138)) fuel L134 H135 e125 (selK I.bot [(2, (fun L157 H158 e159 =>
 I.fa 445 1 (lookQ L157 6) fun v160 =>
 I.store n0 28 H158 v160 (lookQ L157 13) fun H161 f162 => (fun e163 =>
 I.load 445 H161 (lookQ L157 6) fun v164 =>
 I.store n0 445 H161 (lookQ L157 4) v164 fun H165 f166 => (fun e167 =>
 I.load 445 H165 (lookQ L157 4) fun v168 =>
 I.fin n0 H165 e167 [v168, (.bool true)] k) (escQ f166 e163)) (escQ f162 e159)))] (fun L169 H170 e171 =>
 I.load 445 H170 (lookQ L169 4) fun v172 =>
 I.fin n0 H170 e171 [v172, (lookQ L169 5)] k)))) (escQ f97 e92)))] (fun L173 H174 e175 =>
 I.load 445 H174 (lookQ L173 4) fun v176 =>
 I.fin n0 H174 e175 [v176, (lookQ L173 5)] k))) (lenQ H)
  | _ => I.bot⟩
theorem ok309 (R : Type) : TxtOk Tryz.prog U ann 309 (r309 R) := fun I fuel KO KK args H k => match args with
  | [] => .inl rfl
  | [_] => .inl rfl
  | [a0, a1] => .inr (by kernel_rfl)
  | _ :: _ :: _ :: _ => .inl rfl
/-- silt/group.items -/
noncomputable def r323 (R : Type) : Bx (Txt R) := ⟨fun I fuel KO KK args H k => match args with
  | [a0, a1] => (fun n0 =>
 I.len a1 fun v0 =>
 I.bin .eql 3 true v0 (.int .i64 0) fun v1 =>
 I.cond v1 (
 I.fin n0 H false [.nils, (.int .i64 0), (.bool false), (.bool false)] k) (
 I.ia 141 a1 (.int .i64 0) fun v2 =>
 I.load 269 H v2 fun v3 =>
 KK 174 [v3] H fun v4 H5 f6 => (fun e7 =>
 I.ext v4 0 fun v8 =>
 I.ext v4 1 fun v9 =>
 I.alloc 290 H5 fun v10 H11 =>
 I.store n0 290 H11 v10 v8 fun H12 f13 => (fun e14 =>
 I.bin .neq 33 true v9 (.int .i64 0) fun v15 =>
 I.gd v15 false (fun K16 => I.fa 290 0 v10 fun v20 =>
 K16 v20 H12 e14) H12 e14 fun v17 H18 e19 =>
 I.gd v15 false (fun K21 => I.load 22 H18 v17 fun v25 =>
 K21 v25 H18 e19) H18 e19 fun v22 H23 e24 =>
 I.gd v15 false (fun K26 => K26 a0 H23 e24) H23 e24 fun v27 H28 e29 =>
 I.gd v15 false (fun K30 => I.bin .neq 22 false v22 v27 fun v34 =>
 K30 v34 H28 e29) H28 e29 fun v31 H32 e33 =>
 I.pick v15 (.bool true) v31 fun v35 =>
 I.cond v35 (
 I.fin n0 H32 e33 [.nils, (.int .i64 0), (.bool false), (.bool false)] k) (
 I.fa 290 2 v10 fun v36 =>
 I.load 288 H32 v36 fun v37 =>
 I.len v37 fun v38 =>
 I.head n0 240518168883 [(0, a0), (1, a1), (4, .nils), (5, (.int .i64 1)), (6, (.bool false)), (7, (.bool false)), (8, v10), (9, v9), (11, .bad), (12, .bad), (13, .bad), (14, .bad), (15, .bad), (18, v1), (33, v35), (35, v37), (36, v38), (37, (.int .i64 0)), (38, .bad), (45, .bad), (49, .bad), (65, .bad)] H32 e33 fun L39 H40 => loopM I n0 240518168883 (fun L41 H42 e43 k44 =>
 I.bin .lss 3 false (lookQ L41 37) (lookQ L41 36) fun v45 =>
 I.cond v45 (
 I.ia 288 (lookQ L41 35) (lookQ L41 37) fun v46 =>
 I.load 156 H42 v46 fun v47 =>
 I.alloc 156 H42 fun v48 H49 =>
 I.store n0 156 H49 v48 v47 fun H50 f51 => (fun e52 =>
 I.load 156 H50 v48 fun v53 =>
 I.build 160 [(0, v53)] fun v54 =>
 I.alloc 160 H50 fun v55 H56 =>
 I.store n0 160 H56 v55 v54 fun H57 f58 => (fun e59 =>
 I.join (fun L60 H61 e62 =>
 I.load 160 H61 (lookQ L60 12) fun v63 =>
 I.bslice 162 1 [(0, v63)] H61 fun v64 H65 =>
 I.blt true .append #[162, 162] n0 [(lookQ L60 4), v64] H65 fun v66 H67 f68 => (fun e69 =>
 I.bin .add 3 true (lookQ L60 37) (.int .i64 1) fun v70 =>
 k44 .normal [(0, (lookQ L60 0)), (1, (lookQ L60 1)), (4, v66), (5, (lookQ L60 5)), (6, (lookQ L60 6)), (7, (lookQ L60 7)), (8, (lookQ L60 8)), (9, (lookQ L60 9)), (11, (lookQ L60 11)), (12, (lookQ L60 12)), (13, (lookQ L60 13)), (14, (lookQ L60 14)), (15, (lookQ L60 15)), (18, (lookQ L60 18)), (33, (lookQ L60 33)), (35, (lookQ L60 35)), (36, (lookQ L60 36)), (37, v70), (38, (lookQ L60 38)), (45, (lookQ L60 45)), (49, (lookQ L60 49)), (65, (lookQ L60 65))] H67 e69) (escQ f68 e62)) fun j71 =>
 I.fa 156 0 v48 fun v72 =>
 I.load 3 H57 v72 fun v73 =>
 KK 313 [v73] H57 fun v74 H75 f76 => (fun e77 =>
 I.cond v74 (
 I.len (lookQ L41 1) fun v78 =>
 I.bin .geq 3 false (lookQ L41 5) v78 fun v79 =>
 I.cond v79 (
 k44 .ret [(0, (lookQ L41 0)), (1, (lookQ L41 1)), (4, .nils), (5, (.int .i64 0)), (6, (.bool false)), (7, (.bool false)), (8, (lookQ L41 8)), (9, (lookQ L41 9)), (11, v48), (12, v55), (13, (lookQ L41 13)), (14, (lookQ L41 14)), (15, (lookQ L41 15)), (18, (lookQ L41 18)), (33, (lookQ L41 33)), (35, (lookQ L41 35)), (36, (lookQ L41 36)), (37, (lookQ L41 37)), (38, v45), (45, v74), (49, v79), (65, (lookQ L41 65))] H75 e77) (
 I.ia 141 (lookQ L41 1) (lookQ L41 5) fun v80 =>
 I.load 269 H75 v80 fun v81 =>
 KK 173 [v81] H75 fun v82 H83 f84 => (fun e85 =>
 I.ext v82 0 fun v86 =>
 I.ext v82 1 fun v87 =>
 I.ext v82 2 fun v88 =>
 I.alloc 158 H83 fun v89 H90 =>
 I.store n0 158 H90 v89 v86 fun H91 f92 => (fun e93 =>
 I.bin .neq 33 true v88 (.int .i64 0) fun v94 =>
 I.gd v94 false (fun K95 => K95 v87 H91 e93) H91 e93 fun v96 H97 e98 =>
 I.gd v94 false (fun K99 => K99 (lookQ L41 0) H97 e98) H97 e98 fun v100 H101 e102 =>
 I.gd v94 false (fun K103 => I.bin .neq 22 false v96 v100 fun v107 =>
 K103 v107 H101 e102) H101 e102 fun v104 H105 e106 =>
 I.pick v94 (.bool true) v104 fun v108 =>
 I.cond v108 (
 k44 .ret [(0, (lookQ L41 0)), (1, (lookQ L41 1)), (4, .nils), (5, (.int .i64 0)), (6, (.bool false)), (7, (.bool false)), (8, (lookQ L41 8)), (9, (lookQ L41 9)), (11, v48), (12, v55), (13, v89), (14, v87), (15, v88), (18, (lookQ L41 18)), (33, (lookQ L41 33)), (35, (lookQ L41 35)), (36, (lookQ L41 36)), (37, (lookQ L41 37)), (38, v45), (45, v74), (49, v79), (65, v108)] H105 e106) (
 I.load 158 H105 v89 fun v109 =>
 I.fa 160 1 v55 fun v110 =>
 I.store n0 158 H105 v110 v109 fun H111 f112 => (fun e113 =>
 I.bin .add 3 true (lookQ L41 5) (.int .i64 1) fun v114 =>
 j71 [(0, (lookQ L41 0)), (1, (lookQ L41 1)), (4, (lookQ L41 4)), (5, v114), (6, (lookQ L41 6)), (7, (lookQ L41 7)), (8, (lookQ L41 8)), (9, (lookQ L41 9)), (11, v48), (12, v55), (13, v89), (14, v87), (15, v88), (18, (lookQ L41 18)), (33, (lookQ L41 33)), (35, (lookQ L41 35)), (36, (lookQ L41 36)), (37, (lookQ L41 37)), (38, v45), (45, v74), (49, v79), (65, v108)] H111 e113) (escQ f112 e106))) (escQ f92 e85)) (escQ f84 e77))) (
 j71 [(0, (lookQ L41 0)), (1, (lookQ L41 1)), (4, (lookQ L41 4)), (5, (lookQ L41 5)), (6, (lookQ L41 6)), (7, (lookQ L41 7)), (8, (lookQ L41 8)), (9, (lookQ L41 9)), (11, v48), (12, v55), (13, (lookQ L41 13)), (14, (lookQ L41 14)), (15, (lookQ L41 15)), (18, (lookQ L41 18)), (33, (lookQ L41 33)), (35, (lookQ L41 35)), (36, (lookQ L41 36)), (37, (lookQ L41 37)), (38, v45), (45, v74), (49, (lookQ L41 49)), (65, (lookQ L41 65))] H75 e77)) (escQ f76 e59)) (escQ f58 e52)) (escQ f51 e43)) (
 k44 (.exit 0) [(0, (lookQ L41 0)), (1, (lookQ L41 1)), (4, (lookQ L41 4)), (5, (lookQ L41 5)), (6, (lookQ L41 6)), (7, (lookQ L41 7)), (8, (lookQ L41 8)), (9, (lookQ L41 9)), (11, (lookQ L41 11)), (12, (lookQ L41 12)), (13, (lookQ L41 13)), (14, (lookQ L41 14)), (15, (lookQ L41 15)), (18, (lookQ L41 18)), (33, (lookQ L41 33)), (35, (lookQ L41 35)), (36, (lookQ L41 36)), (37, (lookQ L41 37)), (38, v45), (45, (lookQ L41 45)), (49, (lookQ L41 49)), (65, (lookQ L41 65))] H42 e43)) fuel L39 H40 e33 (selK I.bot [(0, (fun L115 H116 e117 =>
 I.fa 290 1 (lookQ L115 8) fun v118 =>
 I.load 4 H116 v118 fun v119 =>
 I.fin n0 H116 e117 [(lookQ L115 4), (lookQ L115 5), v119, (.bool true)] k))] (fun L120 H121 e122 =>
 I.fin n0 H121 e122 [(lookQ L120 4), (lookQ L120 5), (lookQ L120 6), (lookQ L120 7)] k)))) (escQ f13 e7)) (escQ f6 false))) (lenQ H)
  | _ => I.bot⟩
theorem ok323 (R : Type) : TxtOk Tryz.prog U ann 323 (r323 R) := fun I fuel KO KK args H k => match args with
  | [] => .inl rfl
  | [_] => .inl rfl
  | [a0, a1] => .inr (by kernel_rfl)
  | _ :: _ :: _ :: _ => .inl rfl
/-- (*silt/fault.fault).Unwrap -/
noncomputable def r350 (R : Type) : Bx (Txt R) := ⟨fun I fuel KO KK args H k => match args with
  | [a0] => (fun n0 =>
 I.nil a0 fun v0 =>
 I.fa 282 1 v0 fun v1 =>
 I.load 137 H v1 fun v2 =>
 I.fin n0 H false [v2] k) (lenQ H)
  | _ => I.bot⟩
theorem ok350 (R : Type) : TxtOk Tryz.prog U ann 350 (r350 R) := fun I fuel KO KK args H k => match args with
  | [] => .inl rfl
  | [a0] => .inr (by kernel_rfl)
  | _ :: _ :: _ => .inl rfl
end Go.Proofs.YtkkbnchpedacjaaGreatDoor
