/-
  The functions of the program, printed: part 2. Each is what the machine does on its text.
-/
import Derived.Test.YtkkbnchpedacjaaGreatDoorMBase
namespace Go.Proofs.YtkkbnchpedacjaaGreatDoor
open Go Go.X
set_option linter.unusedVariables false
/-- silt/block.Encode -/
noncomputable def r248 (R : Type) : Bx (Txt R) := ⟨fun I fuel KO KK args H k => match args with
  | [a0, a1] => (fun n0 =>
 I.box a0 H fun v0 H1 =>
 I.alloc 269 H1 fun v2 H3 =>
 I.load 158 H3 v0 fun v4 =>
 KK 181 [v4] H3 fun v5 H6 f7 => (fun e8 =>
 I.un .not v5 fun v9 =>
 I.cond v9 (
 I.build 269 [] fun v10 =>
 I.store n0 269 H6 v2 v10 fun H11 f12 => (fun e13 =>
 I.load 269 H11 v2 fun v14 =>
 I.fin n0 H11 e13 [v14, (.int .i64 11)] k) (escQ f12 e8)) (
 I.fa 158 0 v0 fun v15 =>
 I.load 3 H6 v15 fun v16 =>
 I.conv 3 5 v16 H6 fun v17 H18 =>
 I.fa 158 1 v0 fun v19 =>
 I.load 3 H18 v19 fun v20 =>
 I.conv 3 5 v20 H18 fun v21 H22 =>
 I.conv 22 5 a1 H22 fun v23 H24 =>
 I.bin .shr 22 true a1 (.int .u64 8) fun v25 =>
 I.conv 22 5 v25 H24 fun v26 H27 =>
 I.bin .shr 22 true a1 (.int .u64 16) fun v28 =>
 I.conv 22 5 v28 H27 fun v29 H30 =>
 I.bin .shr 22 true a1 (.int .u64 24) fun v31 =>
 I.conv 22 5 v31 H30 fun v32 H33 =>
 I.build 269 [(0, v17), (1, v21), (2, v23), (3, v26), (4, v29), (5, v32)] fun v34 =>
 I.alloc 269 H33 fun v35 H36 =>
 I.store n0 269 H36 v35 v34 fun H37 f38 => (fun e39 =>
 I.fa 158 0 v0 fun v40 =>
 I.load 3 H37 v40 fun v41 =>
 I.join (fun L42 H43 e44 =>
 I.load 269 H43 (lookQ L42 6) fun v45 =>
 I.store n0 269 H43 (lookQ L42 4) v45 fun H46 f47 => (fun e48 =>
 I.load 269 H46 (lookQ L42 4) fun v49 =>
 I.fin n0 H46 e48 [v49, (.int .i64 0)] k) (escQ f47 e44)) fun j50 =>
 I.bin .eql 3 true v41 (.int .i64 1) fun v51 =>
 I.cond v51 (
 I.slice 269 H37 v35 (some (.int .i64 6)) none fun v52 =>
 I.fa 158 2 v0 fun v53 =>
 I.slice 40 H37 v53 none none fun v54 =>
 I.blt true .copy #[65, 65] n0 [v52, v54] H37 fun v55 H56 f57 => (fun e58 =>
 j50 [(0, a0), (1, a1), (2, v0), (4, v2), (5, (.int .i64 0)), (6, v35), (7, .bad), (8, .bad), (11, v9), (32, v41), (33, v51), (39, .bad), (63, .bad), (66, .bad), (67, .bad), (68, .bad)] H56 e58) (escQ f57 e39)) (
 I.bin .eql 3 true v41 (.int .i64 2) fun v59 =>
 I.cond v59 (
 I.fa 158 3 v0 fun v60 =>
 I.load 3 H37 v60 fun v61 =>
 I.conv 3 5 v61 H37 fun v62 H63 =>
 I.fa 158 4 v0 fun v64 =>
 I.load 65 H63 v64 fun v65 =>
 I.len v65 fun v66 =>
 I.conv 3 5 v66 H63 fun v67 H68 =>
 I.ia 269 v35 (.int .i64 6) fun v69 =>
 I.store n0 5 H68 v69 v62 fun H70 f71 => (fun e72 =>
 I.ia 269 v35 (.int .i64 7) fun v73 =>
 I.store n0 5 H70 v73 v67 fun H74 f75 => (fun e76 =>
 I.slice 269 H74 v35 (some (.int .i64 8)) none fun v77 =>
 I.fa 158 4 v0 fun v78 =>
 I.load 65 H74 v78 fun v79 =>
 I.blt true .copy #[65, 65] n0 [v77, v79] H74 fun v80 H81 f82 => (fun e83 =>
 I.fa 158 5 v0 fun v84 =>
 I.load 3 H81 v84 fun v85 =>
 I.conv 3 5 v85 H81 fun v86 H87 =>
 I.fa 158 5 v0 fun v88 =>
 I.load 3 H87 v88 fun v89 =>
 I.bin .shr 3 true v89 (.int .u64 8) fun v90 =>
 I.conv 3 5 v90 H87 fun v91 H92 =>
 I.ia 269 v35 (.int .i64 24) fun v93 =>
 I.store n0 5 H92 v93 v86 fun H94 f95 => (fun e96 =>
 I.ia 269 v35 (.int .i64 25) fun v97 =>
 I.store n0 5 H94 v97 v91 fun H98 f99 => (fun e100 =>
 j50 [(0, a0), (1, a1), (2, v0), (4, v2), (5, (.int .i64 0)), (6, v35), (7, .bad), (8, .bad), (11, v9), (32, v41), (33, v51), (39, v59), (63, .bad), (66, .bad), (67, .bad), (68, .bad)] H98 e100) (escQ f99 e96)) (escQ f95 e83)) (escQ f82 e76)) (escQ f75 e72)) (escQ f71 e39)) (
 I.bin .eql 3 true v41 (.int .i64 3) fun v101 =>
 I.cond v101 (
 I.fa 158 6 v0 fun v102 =>
 I.load 25 H37 v102 fun v103 =>
 I.head n0 221360928884514619472 [(0, a0), (1, a1), (2, v0), (4, v2), (5, (.int .i64 0)), (6, v35), (7, .bad), (8, .bad), (11, v9), (32, v41), (33, v51), (39, v59), (63, v101), (66, v103), (67, (.int .i64 0)), (68, .bad)] H37 e39 fun L104 H105 => loopM I n0 221360928884514619472 (fun L106 H107 e108 k109 =>
 I.bin .lss 3 true (lookQ L106 67) (.int .i64 8) fun v110 =>
 I.cond v110 (
 I.idx 25 (lookQ L106 66) (lookQ L106 67) fun v111 =>
 I.bin .mul 3 true (.int .i64 2) (lookQ L106 67) fun v112 =>
 I.bin .add 3 true (.int .i64 6) v112 fun v113 =>
 I.bin .mul 3 true (.int .i64 2) (lookQ L106 67) fun v114 =>
 I.bin .add 3 true (.int .i64 6) v114 fun v115 =>
 I.bin .add 3 true v115 (.int .i64 1) fun v116 =>
 I.conv 3 5 v111 H107 fun v117 H118 =>
 I.bin .shr 3 true v111 (.int .u64 8) fun v119 =>
 I.conv 3 5 v119 H118 fun v120 H121 =>
 I.ia 269 (lookQ L106 6) v113 fun v122 =>
 I.store n0 5 H121 v122 v117 fun H123 f124 => (fun e125 =>
 I.ia 269 (lookQ L106 6) v116 fun v126 =>
 I.store n0 5 H123 v126 v120 fun H127 f128 => (fun e129 =>
 I.bin .add 3 true (lookQ L106 67) (.int .i64 1) fun v130 =>
 k109 .normal [(0, (lookQ L106 0)), (1, (lookQ L106 1)), (2, (lookQ L106 2)), (4, (lookQ L106 4)), (5, (lookQ L106 5)), (6, (lookQ L106 6)), (7, (lookQ L106 67)), (8, v111), (11, (lookQ L106 11)), (32, (lookQ L106 32)), (33, (lookQ L106 33)), (39, (lookQ L106 39)), (63, (lookQ L106 63)), (66, (lookQ L106 66)), (67, v130), (68, v110)] H127 e129) (escQ f128 e125)) (escQ f124 e108)) (
 k109 (.exit 1) [(0, (lookQ L106 0)), (1, (lookQ L106 1)), (2, (lookQ L106 2)), (4, (lookQ L106 4)), (5, (lookQ L106 5)), (6, (lookQ L106 6)), (7, (lookQ L106 7)), (8, (lookQ L106 8)), (11, (lookQ L106 11)), (32, (lookQ L106 32)), (33, (lookQ L106 33)), (39, (lookQ L106 39)), (63, (lookQ L106 63)), (66, (lookQ L106 66)), (67, (lookQ L106 67)), (68, v110)] H107 e108)) fuel L104 H105 e39 (selK I.bot [(1, (fun L131 H132 e133 =>
 j50 [(0, (lookQ L131 0)), (1, (lookQ L131 1)), (2, (lookQ L131 2)), (4, (lookQ L131 4)), (5, (lookQ L131 5)), (6, (lookQ L131 6)), (7, (lookQ L131 7)), (8, (lookQ L131 8)), (11, (lookQ L131 11)), (32, (lookQ L131 32)), (33, (lookQ L131 33)), (39, (lookQ L131 39)), (63, (lookQ L131 63)), (66, (lookQ L131 66)), (67, (lookQ L131 67)), (68, (lookQ L131 68))] H132 e133))] (fun _ _ _ => I.bot))) (
 j50 [(0, a0), (1, a1), (2, v0), (4, v2), (5, (.int .i64 0)), (6, v35), (7, .bad), (8, .bad), (11, v9), (32, v41), (33, v51), (39, v59), (63, v101), (66, .bad), (67, .bad), (68, .bad)] H37 e39)))) (escQ f38 e8))) (escQ f7 false)) (lenQ H)
  | _ => I.bot⟩
theorem ok248 (R : Type) : TxtOk Tryz.prog U ann 248 (r248 R) := fun I fuel KO KK args H k => match args with
  | [] => .inl rfl
  | [_] => .inl rfl
  | [a0, a1] => .inr (by kernel_rfl)
  | _ :: _ :: _ :: _ => .inl rfl
/-- silt/summary.Encode -/
noncomputable def r249 (R : Type) : Bx (Txt R) := ⟨fun I fuel KO KK args H k => match args with
  | [a0] => (fun n0 =>
 I.box a0 H fun v0 H1 =>
 I.alloc 269 H1 fun v2 H3 =>
 I.fa 290 2 v0 fun v4 =>
 I.load 288 H3 v4 fun v5 =>
 I.len v5 fun v6 =>
 I.bin .lss 3 true v6 (.int .i64 1) fun v7 =>
 I.gd v7 false (fun K8 => I.fa 290 2 v0 fun v12 =>
 K8 v12 H3 false) H3 false fun v9 H10 e11 =>
 I.gd v7 false (fun K13 => I.load 288 H10 v9 fun v17 =>
 K13 v17 H10 e11) H10 e11 fun v14 H15 e16 =>
 I.gd v7 false (fun K18 => I.len v14 fun v22 =>
 K18 v22 H15 e16) H15 e16 fun v19 H20 e21 =>
 I.gd v7 false (fun K23 => I.bin .gtr 3 true v19 (.int .i64 24) fun v27 =>
 K23 v27 H20 e21) H20 e21 fun v24 H25 e26 =>
 I.pick v7 (.bool true) v24 fun v28 =>
 I.cond v28 (
 I.build 269 [] fun v29 =>
 I.store n0 269 H25 v2 v29 fun H30 f31 => (fun e32 =>
 I.load 269 H30 v2 fun v33 =>
 I.fin n0 H30 e32 [v33, (.int .i64 11)] k) (escQ f31 e26)) (
 I.fa 290 0 v0 fun v34 =>
 I.load 22 H25 v34 fun v35 =>
 I.conv 22 5 v35 H25 fun v36 H37 =>
 I.fa 290 0 v0 fun v38 =>
 I.load 22 H37 v38 fun v39 =>
 I.bin .shr 22 true v39 (.int .u64 8) fun v40 =>
 I.conv 22 5 v40 H37 fun v41 H42 =>
 I.fa 290 0 v0 fun v43 =>
 I.load 22 H42 v43 fun v44 =>
 I.bin .shr 22 true v44 (.int .u64 16) fun v45 =>
 I.conv 22 5 v45 H42 fun v46 H47 =>
 I.fa 290 0 v0 fun v48 =>
 I.load 22 H47 v48 fun v49 =>
 I.bin .shr 22 true v49 (.int .u64 24) fun v50 =>
 I.conv 22 5 v50 H47 fun v51 H52 =>
 I.fa 290 2 v0 fun v53 =>
 I.load 288 H52 v53 fun v54 =>
 I.len v54 fun v55 =>
 I.conv 3 5 v55 H52 fun v56 H57 =>
 I.build 269 [(0, (.int .u8 83)), (1, (.int .u8 0)), (2, v36), (3, v41), (4, v46), (5, v51), (6, v56)] fun v58 =>
 I.alloc 269 H57 fun v59 H60 =>
 I.store n0 269 H60 v59 v58 fun H61 f62 => (fun e63 =>
 I.join (fun L64 H65 e66 =>
 I.fa 290 2 (lookQ L64 1) fun v67 =>
 I.load 288 H65 v67 fun v68 =>
 I.len v68 fun v69 =>
 I.head n0 30786325577748 [(0, (lookQ L64 0)), (1, (lookQ L64 1)), (2, (lookQ L64 2)), (3, (lookQ L64 3)), (4, (lookQ L64 4)), (5, (lookQ L64 5)), (6, (lookQ L64 6)), (16, (lookQ L64 16)), (39, (lookQ L64 39)), (42, v68), (43, v69), (44, (.int .i64 0)), (45, (lookQ L64 45)), (51, (lookQ L64 51))] H65 e66 fun L70 H71 => loopM I n0 30786325577748 (fun L72 H73 e74 k75 =>
 I.bin .lss 3 false (lookQ L72 44) (lookQ L72 43) fun v76 =>
 I.cond v76 (
 I.ia 288 (lookQ L72 42) (lookQ L72 44) fun v77 =>
 I.load 156 H73 v77 fun v78 =>
 I.alloc 156 H73 fun v79 H80 =>
 I.store n0 156 H80 v79 v78 fun H81 f82 => (fun e83 =>
 I.load 156 H81 v79 fun v84 =>
 KK 291 [v84] H81 fun v85 H86 f87 => (fun e88 =>
 I.un .not v85 fun v89 =>
 I.cond v89 (
 I.build 269 [] fun v90 =>
 I.store n0 269 H86 (lookQ L72 2) v90 fun H91 f92 => (fun e93 =>
 k75 .ret [(0, (lookQ L72 0)), (1, (lookQ L72 1)), (2, (lookQ L72 2)), (3, (.int .i64 11)), (4, (lookQ L72 4)), (5, (lookQ L72 44)), (6, v79), (16, (lookQ L72 16)), (39, (lookQ L72 39)), (42, (lookQ L72 42)), (43, (lookQ L72 43)), (44, (lookQ L72 44)), (45, v76), (51, v89)] H91 e93) (escQ f92 e88)) (
 I.bin .mul 3 true (.int .i64 2) (lookQ L72 44) fun v94 =>
 I.bin .add 3 true (.int .i64 7) v94 fun v95 =>
 I.bin .mul 3 true (.int .i64 2) (lookQ L72 44) fun v96 =>
 I.bin .add 3 true (.int .i64 7) v96 fun v97 =>
 I.bin .add 3 true v97 (.int .i64 1) fun v98 =>
 I.fa 156 0 v79 fun v99 =>
 I.load 3 H86 v99 fun v100 =>
 I.conv 3 5 v100 H86 fun v101 H102 =>
 I.fa 156 1 v79 fun v103 =>
 I.load 3 H102 v103 fun v104 =>
 I.conv 3 5 v104 H102 fun v105 H106 =>
 I.ia 269 (lookQ L72 4) v95 fun v107 =>
 I.store n0 5 H106 v107 v101 fun H108 f109 => (fun e110 =>
 I.ia 269 (lookQ L72 4) v98 fun v111 =>
 I.store n0 5 H108 v111 v105 fun H112 f113 => (fun e114 =>
 I.load 3 H108 v103 fun v115 =>
 I.same v115 v104 (
 I.conv 3 5 v104 H108 fun v116 H117 =>
 I.same v116 v105 (
 I.bin .add 3 true (lookQ L72 44) (.int .i64 1) fun v118 =>
 k75 .normal [(0, (lookQ L72 0)), (1, (lookQ L72 1)), (2, (lookQ L72 2)), (3, (lookQ L72 3)), (4, (lookQ L72 4)), (5, (lookQ L72 44)), (6, v79), (16, (lookQ L72 16)), (39, (lookQ L72 39)), (42, (lookQ L72 42)), (43, (lookQ L72 43)), (44, v118), (45, v76), (51, v89)] H112 e114))) (escQ f113 e110)) (escQ f109 e88))) (escQ f87 e83)) (escQ f82 e74)) (
 k75 (.exit 0) [(0, (lookQ L72 0)), (1, (lookQ L72 1)), (2, (lookQ L72 2)), (3, (lookQ L72 3)), (4, (lookQ L72 4)), (5, (lookQ L72 5)), (6, (lookQ L72 6)), (16, (lookQ L72 16)), (39, (lookQ L72 39)), (42, (lookQ L72 42)), (43, (lookQ L72 43)), (44, (lookQ L72 44)), (45, v76), (51, (lookQ L72 51))] H73 e74)) fuel L70 H71 e66 (selK I.bot [(0, (fun L119 H120 e121 =>
 I.load 269 H120 (lookQ L119 4) fun v122 =>
 I.store n0 269 H120 (lookQ L119 2) v122 fun H123 f124 => (fun e125 =>
 I.load 269 H123 (lookQ L119 2) fun v126 =>
 I.fin n0 H123 e125 [v126, (.int .i64 0)] k) (escQ f124 e121)))] (fun L127 H128 e129 =>
 I.load 269 H128 (lookQ L127 2) fun v130 =>
 I.fin n0 H128 e129 [v130, (lookQ L127 3)] k))) fun j131 =>
 I.fa 290 1 v0 fun v132 =>
 I.load 4 H61 v132 fun v133 =>
 I.cond v133 (
 I.ia 269 v59 (.int .i64 1) fun v134 =>
 I.store n0 5 H61 v134 (.int .u8 1) fun H135 f136 => (fun e137 =>
 j131 [(0, a0), (1, v0), (2, v2), (3, (.int .i64 0)), (4, v59), (5, .bad), (6, .bad), (16, v28), (39, v133), (42, .bad), (43, .bad), (44, .bad), (45, .bad), (51, .bad)] H135 e137) (escQ f136 e63)) (
 j131 [(0, a0), (1, v0), (2, v2), (3, (.int .i64 0)), (4, v59), (5, .bad), (6, .bad), (16, v28), (39, v133), (42, .bad), (43, .bad), (44, .bad), (45, .bad), (51, .bad)] H61 e63)) (escQ f62 e26))) (lenQ H)
  | _ => I.bot⟩
theorem ok249 (R : Type) : TxtOk Tryz.prog U ann 249 (r249 R) := fun I fuel KO KK args H k => match args with
  | [] => .inl rfl
  | [a0] => .inr (by kernel_rfl)
  | _ :: _ :: _ => .inl rfl
/-- silt/mappage.wrong -/
noncomputable def r251 (R : Type) : Bx (Txt R) := ⟨fun I fuel KO KK args H k => match args with
  | [a0, a1] => (fun n0 =>
 I.box a0 H fun v0 H1 =>
 I.load 24 H1 v0 fun v2 =>
 KK 73 [v2] H1 fun v3 H4 f5 => (fun e6 =>
 I.un .not v3 fun v7 =>
 I.gd v7 false (fun K8 => K8 a1 H4 e6) H4 e6 fun v9 H10 e11 =>
 I.gd v7 false (fun K12 => I.len v9 fun v16 =>
 K12 v16 H10 e11) H10 e11 fun v13 H14 e15 =>
 I.gd v7 false (fun K17 => I.fa 24 0 v0 fun v21 =>
 K17 v21 H14 e15) H14 e15 fun v18 H19 e20 =>
 I.gd v7 false (fun K22 => I.load 3 H19 v18 fun v26 =>
 K22 v26 H19 e20) H19 e20 fun v23 H24 e25 =>
 I.gd v7 false (fun K27 => I.bin .neq 3 false v13 v23 fun v31 =>
 K27 v31 H24 e25) H24 e25 fun v28 H29 e30 =>
 I.pick v7 (.bool true) v28 fun v32 =>
 I.cond v32 (
 KK 153 [(.int .i64 1), (.str ⟨#[103, 101, 111, 109, 101, 116, 114, 121]⟩)] H29 fun v33 H34 f35 => (fun e36 =>
 I.fin n0 H34 e36 [v33] k) (escQ f35 e30)) (
 KK 252 [a1] H29 fun v37 H38 f39 => (fun e40 =>
 I.len v37 fun v41 =>
 I.head n0 3670016 [(0, a0), (1, a1), (2, v0), (4, .nili), (5, .bad), (6, .bad), (16, v32), (19, v37), (20, v41), (21, (.int .i64 0)), (22, .bad), (28, .bad)] H38 e40 fun L42 H43 => loopM I n0 3670016 (fun L44 H45 e46 k47 =>
 I.bin .lss 3 false (lookQ L44 21) (lookQ L44 20) fun v48 =>
 I.cond v48 (
 I.ia 264 (lookQ L44 19) (lookQ L44 21) fun v49 =>
 I.load 158 H45 v49 fun v50 =>
 I.alloc 158 H45 fun v51 H52 =>
 I.store n0 158 H52 v51 v50 fun H53 f54 => (fun e55 =>
 I.load 158 H53 v51 fun v56 =>
 KK 181 [v56] H53 fun v57 H58 f59 => (fun e60 =>
 I.un .not v57 fun v61 =>
 I.cond v61 (
 I.bot) (
 I.bin .add 3 true (lookQ L44 21) (.int .i64 1) fun v62 =>
 k47 .normal [(0, (lookQ L44 0)), (1, (lookQ L44 1)), (2, (lookQ L44 2)), (4, (lookQ L44 4)), (5, (lookQ L44 21)), (6, v51), (16, (lookQ L44 16)), (19, (lookQ L44 19)), (20, (lookQ L44 20)), (21, v62), (22, v48), (28, v61)] H58 e60)) (escQ f59 e55)) (escQ f54 e46)) (
 k47 (.exit 0) [(0, (lookQ L44 0)), (1, (lookQ L44 1)), (2, (lookQ L44 2)), (4, (lookQ L44 4)), (5, (lookQ L44 5)), (6, (lookQ L44 6)), (16, (lookQ L44 16)), (19, (lookQ L44 19)), (20, (lookQ L44 20)), (21, (lookQ L44 21)), (22, v48), (28, (lookQ L44 28))] H45 e46)) fuel L42 H43 e40 (selK I.bot [(0, (fun L63 H64 e65 =>
 I.fin n0 H64 e65 [.nili] k))] (fun L66 H67 e68 =>
 I.fin n0 H67 e68 [(lookQ L66 4)] k))) (escQ f39 e30))) (escQ f5 false)) (lenQ H)
  | _ => I.bot⟩
theorem ok251 (R : Type) : TxtOk Tryz.prog U ann 251 (r251 R) := fun I fuel KO KK args H k => match args with
  | [] => .inl rfl
  | [_] => .inl rfl
  | [a0, a1] => .inr (by kernel_rfl)
  | _ :: _ :: _ :: _ => .inl rfl
/-- silt/mappage.cut -/
noncomputable def r252 (R : Type) : Bx (Txt R) := ⟨fun I fuel KO KK args H k => match args with
  | [a0] => (fun n0 =>
 I.head n0 25 [(0, a0), (2, .nils), (3, .nils), (4, (.int .i64 0)), (5, .bad), (9, .bad)] H false fun L0 H1 => loopM I n0 25 (fun L2 H3 e4 k5 =>
 I.len (lookQ L2 0) fun v6 =>
 I.bin .lss 3 false (lookQ L2 4) v6 fun v7 =>
 I.cond v7 (
 I.bin .quo 3 true (lookQ L2 4) (.int .i64 8) fun v8 =>
 I.build 158 [(0, (.int .i64 3)), (1, v8)] fun v9 =>
 I.alloc 158 H3 fun v10 H11 =>
 I.store n0 158 H11 v10 v9 fun H12 f13 => (fun e14 =>
 I.fa 158 6 v10 fun v15 =>
 I.slice 25 H12 v15 none none fun v16 =>
 I.slice 28 H12 (lookQ L2 0) (some (lookQ L2 4)) none fun v17 =>
 I.blt true .copy #[28, 28] n0 [v16, v17] H12 fun v18 H19 f20 => (fun e21 =>
 I.load 158 H19 v10 fun v22 =>
 I.bslice 264 1 [(0, v22)] H19 fun v23 H24 =>
 I.blt true .append #[264, 264] n0 [(lookQ L2 3), v23] H24 fun v25 H26 f27 => (fun e28 =>
 I.bin .add 3 true (lookQ L2 4) (.int .i64 8) fun v29 =>
 k5 .normal [(0, (lookQ L2 0)), (2, (lookQ L2 2)), (3, v25), (4, v29), (5, v10), (9, v7)] H26 e28) (escQ f27 e21)) (escQ f20 e14)) (escQ f13 e4)) (
 k5 (.exit 0) [(0, (lookQ L2 0)), (2, (lookQ L2 2)), (3, (lookQ L2 3)), (4, (lookQ L2 4)), (5, (lookQ L2 5)), (9, v7)] H3 e4)) fuel L0 H1 false (selK I.bot [(0, (fun L30 H31 e32 =>
 I.fin n0 H31 e32 [(lookQ L30 3)] k))] (fun _ _ _ => I.bot))) (lenQ H)
  | _ => I.bot⟩
theorem ok252 (R : Type) : TxtOk Tryz.prog U ann 252 (r252 R) := fun I fuel KO KK args H k => match args with
  | [] => .inl rfl
  | [a0] => .inr (by kernel_rfl)
  | _ :: _ :: _ => .inl rfl
/-- silt/block.plain -/
noncomputable def r258 (R : Type) : Bx (Txt R) := ⟨fun I fuel KO KK args H k => match args with
  | [a0] => (fun n0 =>
 I.box a0 H fun v0 H1 =>
 I.fa 158 2 v0 fun v2 =>
 I.load 40 H1 v2 fun v3 =>
 I.build 40 [] fun v4 =>
 I.bin .eql 40 false v3 v4 fun v5 =>
 I.fa 158 6 v0 fun v6 =>
 I.load 25 H1 v6 fun v7 =>
 I.build 25 [] fun v8 =>
 I.bin .eql 25 false v7 v8 fun v9 =>
 I.fa 158 3 v0 fun v10 =>
 I.load 3 H1 v10 fun v11 =>
 I.bin .eql 3 true v11 (.int .i64 0) fun v12 =>
 I.gd v12 true (fun K13 => I.fa 158 4 v0 fun v17 =>
 K13 v17 H1 false) H1 false fun v14 H15 e16 =>
 I.gd v12 true (fun K18 => I.load 65 H15 v14 fun v22 =>
 K18 v22 H15 e16) H15 e16 fun v19 H20 e21 =>
 I.gd v12 true (fun K23 => I.len v19 fun v27 =>
 K23 v27 H20 e21) H20 e21 fun v24 H25 e26 =>
 I.gd v12 true (fun K28 => I.bin .eql 3 true v24 (.int .i64 0) fun v32 =>
 K28 v32 H25 e26) H25 e26 fun v29 H30 e31 =>
 I.pick v12 v29 (.bool false) fun v33 =>
 I.gd v33 true (fun K34 => I.fa 158 5 v0 fun v38 =>
 K34 v38 H30 e31) H30 e31 fun v35 H36 e37 =>
 I.gd v33 true (fun K39 => I.load 3 H36 v35 fun v43 =>
 K39 v43 H36 e37) H36 e37 fun v40 H41 e42 =>
 I.gd v33 true (fun K44 => I.bin .eql 3 true v40 (.int .i64 0) fun v48 =>
 K44 v48 H41 e42) H41 e42 fun v45 H46 e47 =>
 I.pick v33 v45 (.bool false) fun v49 =>
 I.fa 158 0 v0 fun v50 =>
 I.load 3 H46 v50 fun v51 =>
 I.bin .eql 3 true v51 (.int .i64 1) fun v52 =>
 I.cond v52 (
 I.gd v9 true (fun K53 => K53 v49 H46 e47) H46 e47 fun v54 H55 e56 =>
 I.pick v9 v54 (.bool false) fun v57 =>
 I.fin n0 H55 e56 [v57] k) (
 I.bin .eql 3 true v51 (.int .i64 2) fun v58 =>
 I.cond v58 (
 I.gd v9 true (fun K59 => K59 v5 H46 e47) H46 e47 fun v60 H61 e62 =>
 I.pick v9 v60 (.bool false) fun v63 =>
 I.fin n0 H61 e62 [v63] k) (
 I.gd v5 true (fun K64 => K64 v49 H46 e47) H46 e47 fun v65 H66 e67 =>
 I.pick v5 v65 (.bool false) fun v68 =>
 I.fin n0 H66 e67 [v68] k))) (lenQ H)
  | _ => I.bot⟩
theorem ok258 (R : Type) : TxtOk Tryz.prog U ann 258 (r258 R) := fun I fuel KO KK args H k => match args with
  | [] => .inl rfl
  | [a0] => .inr (by kernel_rfl)
  | _ :: _ :: _ => .inl rfl
/-- silt/block.head -/
noncomputable def r259 (R : Type) : Bx (Txt R) := ⟨fun I fuel KO KK args H k => match args with
  | [a0] => (fun n0 =>
 I.join (fun L0 H1 e2 =>
 I.bin .geq 3 true (lookQ L0 0) (.int .i64 4) fun v3 =>
 I.gd v3 true (fun K4 => K4 (lookQ L0 0) H1 e2) H1 e2 fun v5 H6 e7 =>
 I.gd v3 true (fun K8 => I.bin .leq 3 true v5 (.int .i64 1023) fun v12 =>
 K8 v12 H6 e7) H6 e7 fun v9 H10 e11 =>
 I.pick v3 v9 (.bool false) fun v13 =>
 I.fin n0 H10 e11 [v13] k) fun j14 =>
 I.join (fun L15 H16 e17 =>
 I.fin n0 H16 e17 [(.bool true)] k) fun j18 =>
 I.bin .eql 3 true a0 (.int .i64 0) fun v19 =>
 I.cond v19 (
 j18 [(0, a0), (2, (.bool false)), (3, v19), (6, .bad)] H false) (
 I.bin .eql 3 true a0 (.int .i64 1) fun v20 =>
 I.cond v20 (
 j18 [(0, a0), (2, (.bool false)), (3, v19), (6, v20)] H false) (
 j14 [(0, a0), (2, (.bool false)), (3, v19), (6, v20)] H false))) (lenQ H)
  | _ => I.bot⟩
theorem ok259 (R : Type) : TxtOk Tryz.prog U ann 259 (r259 R) := fun I fuel KO KK args H k => match args with
  | [] => .inl rfl
  | [a0] => .inr (by kernel_rfl)
  | _ :: _ :: _ => .inl rfl
/-- silt/block.Good$1 -/
noncomputable def r260 (R : Type) : Bx (Txt R) := ⟨fun I fuel KO KK args H k => match args with
  | [a0] => (fun n0 =>
 KK 259 [a0] H fun v0 H1 f2 => (fun e3 =>
 I.un .not v0 fun v4 =>
 I.fin n0 H1 e3 [v4] k) (escQ f2 false)) (lenQ H)
  | _ => I.bot⟩
theorem ok260 (R : Type) : TxtOk Tryz.prog U ann 260 (r260 R) := fun I fuel KO KK args H k => match args with
  | [] => .inl rfl
  | [a0] => .inr (by kernel_rfl)
  | _ :: _ :: _ => .inl rfl
/-- silt/plan.part -/
noncomputable def r261 (R : Type) : Bx (Txt R) := ⟨fun I fuel KO KK args H k => match args with
  | [a0, a1] => (fun n0 =>
 I.box a0 H fun v0 H1 =>
 I.bin .lss 3 true a1 (.int .i64 4) fun v2 =>
 I.cond v2 (
 I.fin n0 H1 false [(.int .i64 0)] k) (
 I.load 24 H1 v0 fun v3 =>
 KK 75 [v3] H1 fun v4 H5 f6 => (fun e7 =>
 I.bin .geq 3 false a1 v4 fun v8 =>
 I.cond v8 (
 I.fin n0 H5 e7 [(.int .i64 2)] k) (
 I.fin n0 H5 e7 [(.int .i64 1)] k)) (escQ f6 false))) (lenQ H)
  | _ => I.bot⟩
theorem ok261 (R : Type) : TxtOk Tryz.prog U ann 261 (r261 R) := fun I fuel KO KK args H k => match args with
  | [] => .inl rfl
  | [_] => .inl rfl
  | [a0, a1] => .inr (by kernel_rfl)
  | _ :: _ :: _ :: _ => .inl rfl
/-- slices.pdqsortOrdered[int] -/
noncomputable def r266 (R : Type) : Bx (Txt R) := ⟨fun I fuel KO KK args H k => match args with
  | [a0, a1, a2, a3] => (fun n0 =>
 I.head n0 783 [(0, a0), (1, a1), (2, a2), (3, a3), (8, (.bool true)), (9, (.bool true)), (10, .bad), (11, .bad), (12, .bad), (13, .bad), (14, .bad), (15, .bad), (16, .bad), (17, .bad), (18, .bad), (23, .bad), (29, .bad), (35, .bad), (50, .bad), (68, .bad), (72, .bad), (87, .bad), (113, .bad)] H false fun L0 H1 => loopM I n0 783 (fun L2 H3 e4 k5 =>
 I.join (fun L6 H7 e8 =>
 k5 .normal [(0, (lookQ L6 0)), (1, (lookQ L6 1)), (2, (lookQ L6 2)), (3, (lookQ L6 3)), (8, (lookQ L6 8)), (9, (lookQ L6 9)), (10, (lookQ L6 10)), (11, (lookQ L6 11)), (12, (lookQ L6 12)), (13, (lookQ L6 13)), (14, (lookQ L6 14)), (15, (lookQ L6 15)), (16, (lookQ L6 16)), (17, (lookQ L6 17)), (18, (lookQ L6 18)), (23, (lookQ L6 23)), (29, (lookQ L6 29)), (35, (lookQ L6 35)), (50, (lookQ L6 50)), (68, (lookQ L6 68)), (72, (lookQ L6 72)), (87, (lookQ L6 87)), (113, (lookQ L6 113))] H7 e8) fun j9 =>
 I.bin .sub 3 false (lookQ L2 2) (lookQ L2 1) fun v10 =>
 I.bin .leq 3 true v10 (.int .i64 12) fun v11 =>
 I.cond v11 (
 KK 294 [(lookQ L2 0), (lookQ L2 1), (lookQ L2 2)] H3 fun v12 H13 f14 => (fun e15 =>
 k5 .ret [(0, (lookQ L2 0)), (1, (lookQ L2 1)), (2, (lookQ L2 2)), (3, (lookQ L2 3)), (8, (lookQ L2 8)), (9, (lookQ L2 9)), (10, v10), (11, (lookQ L2 11)), (12, (lookQ L2 12)), (13, (lookQ L2 13)), (14, (lookQ L2 14)), (15, (lookQ L2 15)), (16, (lookQ L2 16)), (17, (lookQ L2 17)), (18, (lookQ L2 18)), (23, v11), (29, (lookQ L2 29)), (35, (lookQ L2 35)), (50, (lookQ L2 50)), (68, (lookQ L2 68)), (72, (lookQ L2 72)), (87, (lookQ L2 87)), (113, (lookQ L2 113))] H13 e15) (escQ f14 e4)) (
 I.bin .eql 3 true (lookQ L2 3) (.int .i64 0) fun v16 =>
 I.cond v16 (
 KK 295 [(lookQ L2 0), (lookQ L2 1), (lookQ L2 2)] H3 fun v17 H18 f19 => (fun e20 =>
 k5 .ret [(0, (lookQ L2 0)), (1, (lookQ L2 1)), (2, (lookQ L2 2)), (3, (lookQ L2 3)), (8, (lookQ L2 8)), (9, (lookQ L2 9)), (10, v10), (11, (lookQ L2 11)), (12, (lookQ L2 12)), (13, (lookQ L2 13)), (14, (lookQ L2 14)), (15, (lookQ L2 15)), (16, (lookQ L2 16)), (17, (lookQ L2 17)), (18, (lookQ L2 18)), (23, v11), (29, v16), (35, (lookQ L2 35)), (50, (lookQ L2 50)), (68, (lookQ L2 68)), (72, (lookQ L2 72)), (87, (lookQ L2 87)), (113, (lookQ L2 113))] H18 e20) (escQ f19 e4)) (
 I.join (fun L21 H22 e23 =>
 KK 297 [(lookQ L21 0), (lookQ L21 1), (lookQ L21 2)] H22 fun v24 H25 f26 => (fun e27 =>
 I.ext v24 0 fun v28 =>
 I.ext v24 1 fun v29 =>
 I.join (fun L30 H31 e32 =>
 I.join (fun L33 H34 e35 =>
 I.bin .gtr 3 true (lookQ L33 1) (.int .i64 0) fun v36 =>
 I.gd v36 true (fun K37 => K37 (lookQ L33 0) H34 e35) H34 e35 fun v38 H39 e40 =>
 I.gd v36 true (fun K41 => K41 (lookQ L33 1) H39 e40) H39 e40 fun v42 H43 e44 =>
 I.gd v36 true (fun K45 => I.bin .sub 3 true v42 (.int .i64 1) fun v49 =>
 K45 v49 H43 e44) H43 e44 fun v46 H47 e48 =>
 I.gd v36 true (fun K50 => I.ia 28 v38 v46 fun v54 =>
 K50 v54 H47 e48) H47 e48 fun v51 H52 e53 =>
 I.gd v36 true (fun K55 => I.load 3 H52 v51 fun v59 =>
 K55 v59 H52 e53) H52 e53 fun v56 H57 e58 =>
 I.gd v36 true (fun K60 => K60 (lookQ L33 0) H57 e58) H57 e58 fun v61 H62 e63 =>
 I.gd v36 true (fun K64 => K64 (lookQ L33 11) H62 e63) H62 e63 fun v65 H66 e67 =>
 I.gd v36 true (fun K68 => I.ia 28 v61 v65 fun v72 =>
 K68 v72 H66 e67) H66 e67 fun v69 H70 e71 =>
 I.gd v36 true (fun K73 => I.load 3 H70 v69 fun v77 =>
 K73 v77 H70 e71) H70 e71 fun v74 H75 e76 =>
 I.gd v36 true (fun K78 => KK 300 [v56, v74] H75 fun v82 H83 f84 => (fun e85 =>
 K78 v82 H83 e85) (escQ f84 e76)) H75 e76 fun v79 H80 e81 =>
 I.gd v36 true (fun K86 => I.un .not v79 fun v90 =>
 K86 v90 H80 e81) H80 e81 fun v87 H88 e89 =>
 I.pick v36 v87 (.bool false) fun v91 =>
 I.cond v91 (
 KK 301 [(lookQ L33 0), (lookQ L33 1), (lookQ L33 2), (lookQ L33 11)] H88 fun v92 H93 f94 => (fun e95 =>
 j9 [(0, (lookQ L33 0)), (1, v92), (2, (lookQ L33 2)), (3, (lookQ L33 3)), (8, (lookQ L33 8)), (9, (lookQ L33 9)), (10, (lookQ L33 10)), (11, (lookQ L33 11)), (12, (lookQ L33 12)), (13, v92), (14, (lookQ L33 14)), (15, (lookQ L33 15)), (16, (lookQ L33 16)), (17, (lookQ L33 17)), (18, (lookQ L33 18)), (23, (lookQ L33 23)), (29, (lookQ L33 29)), (35, (lookQ L33 35)), (50, (lookQ L33 50)), (68, (lookQ L33 68)), (72, (lookQ L33 72)), (87, v91), (113, (lookQ L33 113))] H93 e95) (escQ f94 e89)) (
 KK 302 [(lookQ L33 0), (lookQ L33 1), (lookQ L33 2), (lookQ L33 11)] H88 fun v96 H97 f98 => (fun e99 =>
 I.ext v96 0 fun v100 =>
 I.ext v96 1 fun v101 =>
 I.bin .sub 3 false v100 (lookQ L33 1) fun v102 =>
 I.bin .sub 3 false (lookQ L33 2) v100 fun v103 =>
 I.bin .quo 3 true (lookQ L33 10) (.int .i64 8) fun v104 =>
 I.bin .lss 3 false v102 v103 fun v105 =>
 I.cond v105 (
 I.bin .geq 3 false v102 v104 fun v106 =>
 KK 266 [(lookQ L33 0), (lookQ L33 1), v100, (lookQ L33 3)] H97 fun v107 H108 f109 => (fun e110 =>
 I.bin .add 3 true v100 (.int .i64 1) fun v111 =>
 j9 [(0, (lookQ L33 0)), (1, v111), (2, (lookQ L33 2)), (3, (lookQ L33 3)), (8, v106), (9, v101), (10, (lookQ L33 10)), (11, (lookQ L33 11)), (12, (lookQ L33 12)), (13, (lookQ L33 13)), (14, v100), (15, v101), (16, v102), (17, v103), (18, v104), (23, (lookQ L33 23)), (29, (lookQ L33 29)), (35, (lookQ L33 35)), (50, (lookQ L33 50)), (68, (lookQ L33 68)), (72, (lookQ L33 72)), (87, v91), (113, v105)] H108 e110) (escQ f109 e99)) (
 I.bin .geq 3 false v103 v104 fun v112 =>
 I.bin .add 3 true v100 (.int .i64 1) fun v113 =>
 KK 266 [(lookQ L33 0), v113, (lookQ L33 2), (lookQ L33 3)] H97 fun v114 H115 f116 => (fun e117 =>
 j9 [(0, (lookQ L33 0)), (1, (lookQ L33 1)), (2, v100), (3, (lookQ L33 3)), (8, v112), (9, v101), (10, (lookQ L33 10)), (11, (lookQ L33 11)), (12, (lookQ L33 12)), (13, (lookQ L33 13)), (14, v100), (15, v101), (16, v102), (17, v103), (18, v104), (23, (lookQ L33 23)), (29, (lookQ L33 29)), (35, (lookQ L33 35)), (50, (lookQ L33 50)), (68, (lookQ L33 68)), (72, (lookQ L33 72)), (87, v91), (113, v105)] H115 e117) (escQ f116 e99))) (escQ f98 e89))) fun j118 =>
 I.gd (lookQ L30 8) true (fun K119 => K119 (lookQ L30 9) H31 e32) H31 e32 fun v120 H121 e122 =>
 I.pick (lookQ L30 8) v120 (.bool false) fun v123 =>
 I.gd v123 true (fun K124 => K124 (lookQ L30 12) H121 e122) H121 e122 fun v125 H126 e127 =>
 I.gd v123 true (fun K128 => I.bin .eql 432 true v125 (.int .i64 1) fun v132 =>
 K128 v132 H126 e127) H126 e127 fun v129 H130 e131 =>
 I.pick v123 v129 (.bool false) fun v133 =>
 I.cond v133 (
 KK 299 [(lookQ L30 0), (lookQ L30 1), (lookQ L30 2)] H130 fun v134 H135 f136 => (fun e137 =>
 I.cond v134 (
 k5 .ret [(0, (lookQ L30 0)), (1, (lookQ L30 1)), (2, (lookQ L30 2)), (3, (lookQ L30 3)), (8, (lookQ L30 8)), (9, (lookQ L30 9)), (10, (lookQ L30 10)), (11, (lookQ L30 11)), (12, (lookQ L30 12)), (13, (lookQ L30 13)), (14, (lookQ L30 14)), (15, (lookQ L30 15)), (16, (lookQ L30 16)), (17, (lookQ L30 17)), (18, (lookQ L30 18)), (23, (lookQ L30 23)), (29, (lookQ L30 29)), (35, (lookQ L30 35)), (50, (lookQ L30 50)), (68, v133), (72, v134), (87, (lookQ L30 87)), (113, (lookQ L30 113))] H135 e137) (
 j118 [(0, (lookQ L30 0)), (1, (lookQ L30 1)), (2, (lookQ L30 2)), (3, (lookQ L30 3)), (8, (lookQ L30 8)), (9, (lookQ L30 9)), (10, (lookQ L30 10)), (11, (lookQ L30 11)), (12, (lookQ L30 12)), (13, (lookQ L30 13)), (14, (lookQ L30 14)), (15, (lookQ L30 15)), (16, (lookQ L30 16)), (17, (lookQ L30 17)), (18, (lookQ L30 18)), (23, (lookQ L30 23)), (29, (lookQ L30 29)), (35, (lookQ L30 35)), (50, (lookQ L30 50)), (68, v133), (72, v134), (87, (lookQ L30 87)), (113, (lookQ L30 113))] H135 e137)) (escQ f136 e131)) (
 j118 [(0, (lookQ L30 0)), (1, (lookQ L30 1)), (2, (lookQ L30 2)), (3, (lookQ L30 3)), (8, (lookQ L30 8)), (9, (lookQ L30 9)), (10, (lookQ L30 10)), (11, (lookQ L30 11)), (12, (lookQ L30 12)), (13, (lookQ L30 13)), (14, (lookQ L30 14)), (15, (lookQ L30 15)), (16, (lookQ L30 16)), (17, (lookQ L30 17)), (18, (lookQ L30 18)), (23, (lookQ L30 23)), (29, (lookQ L30 29)), (35, (lookQ L30 35)), (50, (lookQ L30 50)), (68, v133), (72, (lookQ L30 72)), (87, (lookQ L30 87)), (113, (lookQ L30 113))] H130 e131)) fun j138 =>
 I.bin .eql 432 true v29 (.int .i64 2) fun v139 =>
 I.cond v139 (
 KK 298 [(lookQ L21 0), (lookQ L21 1), (lookQ L21 2)] H25 fun v140 H141 f142 => (fun e143 =>
 I.bin .sub 3 true (lookQ L21 2) (.int .i64 1) fun v144 =>
 I.bin .sub 3 false v28 (lookQ L21 1) fun v145 =>
 I.bin .sub 3 false v144 v145 fun v146 =>
 j138 [(0, (lookQ L21 0)), (1, (lookQ L21 1)), (2, (lookQ L21 2)), (3, (lookQ L21 3)), (8, (lookQ L21 8)), (9, (lookQ L21 9)), (10, (lookQ L21 10)), (11, v146), (12, (.int .i64 1)), (13, (lookQ L21 13)), (14, (lookQ L21 14)), (15, (lookQ L21 15)), (16, (lookQ L21 16)), (17, (lookQ L21 17)), (18, (lookQ L21 18)), (23, (lookQ L21 23)), (29, (lookQ L21 29)), (35, (lookQ L21 35)), (50, v139), (68, (lookQ L21 68)), (72, (lookQ L21 72)), (87, (lookQ L21 87)), (113, (lookQ L21 113))] H141 e143) (escQ f142 e27)) (
 j138 [(0, (lookQ L21 0)), (1, (lookQ L21 1)), (2, (lookQ L21 2)), (3, (lookQ L21 3)), (8, (lookQ L21 8)), (9, (lookQ L21 9)), (10, (lookQ L21 10)), (11, v28), (12, v29), (13, (lookQ L21 13)), (14, (lookQ L21 14)), (15, (lookQ L21 15)), (16, (lookQ L21 16)), (17, (lookQ L21 17)), (18, (lookQ L21 18)), (23, (lookQ L21 23)), (29, (lookQ L21 29)), (35, (lookQ L21 35)), (50, v139), (68, (lookQ L21 68)), (72, (lookQ L21 72)), (87, (lookQ L21 87)), (113, (lookQ L21 113))] H25 e27)) (escQ f26 e23)) fun j147 =>
 I.un .not (lookQ L2 8) fun v148 =>
 I.cond v148 (
 KK 296 [(lookQ L2 0), (lookQ L2 1), (lookQ L2 2)] H3 fun v149 H150 f151 => (fun e152 =>
 I.bin .sub 3 true (lookQ L2 3) (.int .i64 1) fun v153 =>
 j147 [(0, (lookQ L2 0)), (1, (lookQ L2 1)), (2, (lookQ L2 2)), (3, v153), (8, (lookQ L2 8)), (9, (lookQ L2 9)), (10, v10), (11, (lookQ L2 11)), (12, (lookQ L2 12)), (13, (lookQ L2 13)), (14, (lookQ L2 14)), (15, (lookQ L2 15)), (16, (lookQ L2 16)), (17, (lookQ L2 17)), (18, (lookQ L2 18)), (23, v11), (29, v16), (35, v148), (50, (lookQ L2 50)), (68, (lookQ L2 68)), (72, (lookQ L2 72)), (87, (lookQ L2 87)), (113, (lookQ L2 113))] H150 e152) (escQ f151 e4)) (
 j147 [(0, (lookQ L2 0)), (1, (lookQ L2 1)), (2, (lookQ L2 2)), (3, (lookQ L2 3)), (8, (lookQ L2 8)), (9, (lookQ L2 9)), (10, v10), (11, (lookQ L2 11)), (12, (lookQ L2 12)), (13, (lookQ L2 13)), (14, (lookQ L2 14)), (15, (lookQ L2 15)), (16, (lookQ L2 16)), (17, (lookQ L2 17)), (18, (lookQ L2 18)), (23, v11), (29, v16), (35, v148), (50, (lookQ L2 50)), (68, (lookQ L2 68)), (72, (lookQ L2 72)), (87, (lookQ L2 87)), (113, (lookQ L2 113))] H3 e4)))) fuel L0 H1 false (selK I.bot [(1, (fun L154 H155 e156 =>
 I.bot))] (fun L157 H158 e159 =>
 I.fin n0 H158 e159 [] k))) (lenQ H)
  | _ => I.bot⟩
theorem ok266 (R : Type) : TxtOk Tryz.prog U ann 266 (r266 R) := fun I fuel KO KK args H k => match args with
  | [] => .inl rfl
  | [_] => .inl rfl
  | [_, _] => .inl rfl
  | [_, _, _] => .inl rfl
  | [a0, a1, a2, a3] => .inr (by kernel_rfl)
  | _ :: _ :: _ :: _ :: _ :: _ => .inl rfl
/-- silt/heads.at -/
noncomputable def r273 (R : Type) : Bx (Txt R) := ⟨fun I fuel KO KK args H k => match args with
  | [a0, a1] => (fun n0 =>
 I.len a0 fun v0 =>
 I.bin .lss 3 false a1 v0 fun v1 =>
 I.cond v1 (
 I.ia 28 a0 a1 fun v2 =>
 I.load 3 H v2 fun v3 =>
 I.fin n0 H false [v3] k) (
 I.fin n0 H false [(.int .i64 0)] k)) (lenQ H)
  | _ => I.bot⟩
theorem ok273 (R : Type) : TxtOk Tryz.prog U ann 273 (r273 R) := fun I fuel KO KK args H k => match args with
  | [] => .inl rfl
  | [_] => .inl rfl
  | [a0, a1] => .inr (by kernel_rfl)
  | _ :: _ :: _ :: _ => .inl rfl
/-- silt/region.Decode -/
noncomputable def r279 (R : Type) : Bx (Txt R) := ⟨fun I fuel KO KK args H k => match args with
  | [a0] => (fun n0 =>
 I.box a0 H fun v0 H1 =>
 I.alloc 27 H1 fun v2 H3 =>
 I.ia 270 v0 (.int .i64 0) fun v4 =>
 I.slice 269 H3 v4 (some (.int .i64 6)) none fun v5 =>
 I.ia 270 v0 (.int .i64 0) fun v6 =>
 I.slice 269 H3 v6 (some (.int .i64 2)) none fun v7 =>
 I.ia 65 v5 (.int .i64 0) fun v8 =>
 I.load 5 H3 v8 fun v9 =>
 I.conv 5 3 v9 H3 fun v10 H11 =>
 I.ia 65 v5 (.int .i64 1) fun v12 =>
 I.load 5 H11 v12 fun v13 =>
 I.conv 5 3 v13 H11 fun v14 H15 =>
 I.ia 65 v5 (.int .i64 2) fun v16 =>
 I.load 5 H15 v16 fun v17 =>
 I.conv 5 3 v17 H15 fun v18 H19 =>
 I.ia 65 v5 (.int .i64 3) fun v20 =>
 I.load 5 H19 v20 fun v21 =>
 I.conv 5 3 v21 H19 fun v22 H23 =>
 I.build 24 [(0, v10), (1, v14), (2, v18), (3, v22)] fun v24 =>
 I.ia 65 v5 (.int .i64 4) fun v25 =>
 I.load 5 H23 v25 fun v26 =>
 I.conv 5 3 v26 H23 fun v27 H28 =>
 I.ia 65 v5 (.int .i64 5) fun v29 =>
 I.load 5 H28 v29 fun v30 =>
 I.conv 5 3 v30 H28 fun v31 H32 =>
 I.ia 270 v0 (.int .i64 0) fun v33 =>
 I.slice 269 H32 v33 (some (.int .i64 12)) none fun v34 =>
 KK 307 [v7] H32 fun v35 H36 f37 => (fun e38 =>
 KK 307 [v34] H36 fun v39 H40 f41 => (fun e42 =>
 I.build 27 [(0, v35), (1, v24), (2, v27), (3, v31), (4, v39)] fun v43 =>
 I.alloc 27 H40 fun v44 H45 =>
 I.bare H45 (
 I.store n0 27 H45 v44 v43 fun H46 f47 => (fun e48 =>
 I.load 5 H36 v8 fun v49 =>
 I.same v49 v9 (
 I.load 5 H40 v8 fun v50 =>
 I.same v50 v9 (
 I.load 5 H45 v8 fun v51 =>
 I.same v51 v9 (
 I.conv 5 3 v9 H36 fun v52 H53 =>
 I.same v52 v10 (
 I.conv 5 3 v9 H40 fun v54 H55 =>
 I.same v54 v10 (
 I.conv 5 3 v9 H45 fun v56 H57 =>
 I.same v56 v10 (
 I.load 5 H36 v12 fun v58 =>
 I.same v58 v13 (
 I.load 5 H40 v12 fun v59 =>
 I.same v59 v13 (
 I.load 5 H45 v12 fun v60 =>
 I.same v60 v13 (
 I.conv 5 3 v13 H36 fun v61 H62 =>
 I.same v61 v14 (
 I.conv 5 3 v13 H40 fun v63 H64 =>
 I.same v63 v14 (
 I.conv 5 3 v13 H45 fun v65 H66 =>
 I.same v65 v14 (
 I.load 5 H36 v16 fun v67 =>
 I.same v67 v17 (
 I.load 5 H40 v16 fun v68 =>
 I.same v68 v17 (
 I.load 5 H45 v16 fun v69 =>
 I.same v69 v17 (
 I.conv 5 3 v17 H36 fun v70 H71 =>
 I.same v70 v18 (
 I.conv 5 3 v17 H40 fun v72 H73 =>
 I.same v72 v18 (
 I.conv 5 3 v17 H45 fun v74 H75 =>
 I.same v74 v18 (
 I.load 5 H36 v20 fun v76 =>
 I.same v76 v21 (
 I.load 5 H40 v20 fun v77 =>
 I.same v77 v21 (
 I.load 5 H45 v20 fun v78 =>
 I.same v78 v21 (
 I.conv 5 3 v21 H36 fun v79 H80 =>
 I.same v79 v22 (
 I.conv 5 3 v21 H40 fun v81 H82 =>
 I.same v81 v22 (
 I.conv 5 3 v21 H45 fun v83 H84 =>
 I.same v83 v22 (
 I.load 5 H36 v25 fun v85 =>
 I.same v85 v26 (
 I.load 5 H40 v25 fun v86 =>
 I.same v86 v26 (
 I.load 5 H45 v25 fun v87 =>
 I.same v87 v26 (
 I.conv 5 3 v26 H36 fun v88 H89 =>
 I.same v88 v27 (
 I.conv 5 3 v26 H40 fun v90 H91 =>
 I.same v90 v27 (
 I.conv 5 3 v26 H45 fun v92 H93 =>
 I.same v92 v27 (
 I.load 5 H36 v29 fun v94 =>
 I.same v94 v30 (
 I.load 5 H40 v29 fun v95 =>
 I.same v95 v30 (
 I.load 5 H45 v29 fun v96 =>
 I.same v96 v30 (
 I.conv 5 3 v30 H36 fun v97 H98 =>
 I.same v97 v31 (
 I.conv 5 3 v30 H40 fun v99 H100 =>
 I.same v99 v31 (
 I.conv 5 3 v30 H45 fun v101 H102 =>
 I.same v101 v31 (
 I.slice 269 H36 v33 (some (.int .i64 12)) none fun v103 =>
 I.same v103 v34 (
 I.head n0 8796093022246 [(0, a0), (1, v0), (2, v2), (3, (.int .i64 0)), (4, v5), (5, v44), (6, .bad), (7, .bad), (8, .bad), (43, (.int .i64 0)), (44, .bad), (78, .bad)] H46 e48 fun L104 H105 => loopM I n0 8796093022246 (fun L106 H107 e108 k109 =>
 I.bin .lss 3 true (lookQ L106 43) (.int .i64 8) fun v110 =>
 I.cond v110 (
 I.bin .mul 3 true (.int .i64 2) (lookQ L106 43) fun v111 =>
 I.bin .add 3 true (.int .i64 6) v111 fun v112 =>
 I.ia 270 (lookQ L106 1) (.int .i64 1) fun v113 =>
 I.ia 269 v113 v112 fun v114 =>
 I.load 5 H107 v114 fun v115 =>
 I.conv 5 3 v115 H107 fun v116 H117 =>
 I.bin .mul 3 true (.int .i64 2) (lookQ L106 43) fun v118 =>
 I.bin .add 3 true (.int .i64 6) v118 fun v119 =>
 I.bin .add 3 true v119 (.int .i64 1) fun v120 =>
 I.ia 270 (lookQ L106 1) (.int .i64 1) fun v121 =>
 I.ia 269 v121 v120 fun v122 =>
 I.load 5 H117 v122 fun v123 =>
 I.conv 5 3 v123 H117 fun v124 H125 =>
 I.bin .shl 3 true v124 (.int .u64 8) fun v126 =>
 I.bin .or 3 false v116 v126 fun v127 =>
 I.fa 27 5 (lookQ L106 5) fun v128 =>
 I.ia 25 v128 (lookQ L106 43) fun v129 =>
 I.store n0 3 H125 v129 v127 fun H130 f131 => (fun e132 =>
 I.bin .add 3 true (lookQ L106 43) (.int .i64 1) fun v133 =>
 k109 .normal [(0, (lookQ L106 0)), (1, (lookQ L106 1)), (2, (lookQ L106 2)), (3, (lookQ L106 3)), (4, (lookQ L106 4)), (5, (lookQ L106 5)), (6, (lookQ L106 43)), (7, (lookQ L106 7)), (8, (lookQ L106 8)), (43, v133), (44, v110), (78, (lookQ L106 78))] H130 e132) (escQ f131 e108)) (
 k109 (.exit 0) [(0, (lookQ L106 0)), (1, (lookQ L106 1)), (2, (lookQ L106 2)), (3, (lookQ L106 3)), (4, (lookQ L106 4)), (5, (lookQ L106 5)), (6, (lookQ L106 6)), (7, (lookQ L106 7)), (8, (lookQ L106 8)), (43, (lookQ L106 43)), (44, v110), (78, (lookQ L106 78))] H107 e108)) fuel L104 H105 e48 (selK I.bot [(0, (fun L134 H135 e136 =>
 I.load 27 H135 (lookQ L134 5) fun v137 =>
 KK 165 [v137] H135 fun v138 H139 f140 => (fun e141 =>
 I.ext v138 0 fun v142 =>
 I.ext v138 1 fun v143 =>
 I.alloc 270 H139 fun v144 H145 =>
 I.store n0 270 H145 v144 v142 fun H146 f147 => (fun e148 =>
 I.bin .neq 33 true v143 (.int .i64 0) fun v149 =>
 I.gd v149 false (fun K150 => I.load 270 H146 v144 fun v154 =>
 K150 v154 H146 e148) H146 e148 fun v151 H152 e153 =>
 I.gd v149 false (fun K155 => I.load 270 H152 (lookQ L134 1) fun v159 =>
 K155 v159 H152 e153) H152 e153 fun v156 H157 e158 =>
 I.gd v149 false (fun K160 => I.bin .neq 270 false v151 v156 fun v164 =>
 K160 v164 H157 e158) H157 e158 fun v161 H162 e163 =>
 I.pick v149 (.bool true) v161 fun v165 =>
 I.cond v165 (
 I.build 27 [] fun v166 =>
 I.store n0 27 H162 (lookQ L134 2) v166 fun H167 f168 => (fun e169 =>
 I.load 27 H167 (lookQ L134 2) fun v170 =>
 I.fin n0 H167 e169 [v170, (.int .i64 11)] k) (escQ f168 e163)) (
 I.load 27 H162 (lookQ L134 5) fun v171 =>
 I.store n0 27 H162 (lookQ L134 2) v171 fun H172 f173 => (fun e174 =>
 I.load 27 H172 (lookQ L134 2) fun v175 =>
 I.fin n0 H172 e174 [v175, (.int .i64 0)] k) (escQ f173 e163))) (escQ f147 e141)) (escQ f140 e136)))] (fun _ _ _ => I.bot)))))))))))))))))))))))))))))))))))))))) (escQ f47 e42))) (escQ f41 e38)) (escQ f37 false)) (lenQ H)
  | _ => I.bot⟩
theorem ok279 (R : Type) : TxtOk Tryz.prog U ann 279 (r279 R) := fun I fuel KO KK args H k => match args with
  | [] => .inl rfl
  | [a0] => .inr (by kernel_rfl)
  | _ :: _ :: _ => .inl rfl
/-- silt/mappage.alike -/
noncomputable def r280 (R : Type) : Bx (Txt R) := ⟨fun I fuel KO KK args H k => match args with
  | [a0, a1] => (fun n0 =>
 I.box a0 H fun v0 H1 =>
 I.box a1 H1 fun v2 H3 =>
 I.fa 158 0 v0 fun v4 =>
 I.load 3 H3 v4 fun v5 =>
 I.fa 158 0 v2 fun v6 =>
 I.load 3 H3 v6 fun v7 =>
 I.bin .eql 3 false v5 v7 fun v8 =>
 I.gd v8 true (fun K9 => I.fa 158 1 v0 fun v13 =>
 K9 v13 H3 false) H3 false fun v10 H11 e12 =>
 I.gd v8 true (fun K14 => I.load 3 H11 v10 fun v18 =>
 K14 v18 H11 e12) H11 e12 fun v15 H16 e17 =>
 I.gd v8 true (fun K19 => I.fa 158 1 v2 fun v23 =>
 K19 v23 H16 e17) H16 e17 fun v20 H21 e22 =>
 I.gd v8 true (fun K24 => I.load 3 H21 v20 fun v28 =>
 K24 v28 H21 e22) H21 e22 fun v25 H26 e27 =>
 I.gd v8 true (fun K29 => I.bin .eql 3 false v15 v25 fun v33 =>
 K29 v33 H26 e27) H26 e27 fun v30 H31 e32 =>
 I.pick v8 v30 (.bool false) fun v34 =>
 I.gd v34 true (fun K35 => I.fa 158 2 v0 fun v39 =>
 K35 v39 H31 e32) H31 e32 fun v36 H37 e38 =>
 I.gd v34 true (fun K40 => I.load 40 H37 v36 fun v44 =>
 K40 v44 H37 e38) H37 e38 fun v41 H42 e43 =>
 I.gd v34 true (fun K45 => I.fa 158 2 v2 fun v49 =>
 K45 v49 H42 e43) H42 e43 fun v46 H47 e48 =>
 I.gd v34 true (fun K50 => I.load 40 H47 v46 fun v54 =>
 K50 v54 H47 e48) H47 e48 fun v51 H52 e53 =>
 I.gd v34 true (fun K55 => I.bin .eql 40 false v41 v51 fun v59 =>
 K55 v59 H52 e53) H52 e53 fun v56 H57 e58 =>
 I.pick v34 v56 (.bool false) fun v60 =>
 I.gd v60 true (fun K61 => I.fa 158 3 v0 fun v65 =>
 K61 v65 H57 e58) H57 e58 fun v62 H63 e64 =>
 I.gd v60 true (fun K66 => I.load 3 H63 v62 fun v70 =>
 K66 v70 H63 e64) H63 e64 fun v67 H68 e69 =>
 I.gd v60 true (fun K71 => I.fa 158 3 v2 fun v75 =>
 K71 v75 H68 e69) H68 e69 fun v72 H73 e74 =>
 I.gd v60 true (fun K76 => I.load 3 H73 v72 fun v80 =>
 K76 v80 H73 e74) H73 e74 fun v77 H78 e79 =>
 I.gd v60 true (fun K81 => I.bin .eql 3 false v67 v77 fun v85 =>
 K81 v85 H78 e79) H78 e79 fun v82 H83 e84 =>
 I.pick v60 v82 (.bool false) fun v86 =>
 I.gd v86 true (fun K87 => I.fa 158 4 v0 fun v91 =>
 K87 v91 H83 e84) H83 e84 fun v88 H89 e90 =>
 I.gd v86 true (fun K92 => I.load 65 H89 v88 fun v96 =>
 K92 v96 H89 e90) H89 e90 fun v93 H94 e95 =>
 I.gd v86 true (fun K97 => I.len v93 fun v101 =>
 K97 v101 H94 e95) H94 e95 fun v98 H99 e100 =>
 I.gd v86 true (fun K102 => I.bin .eql 3 true v98 (.int .i64 0) fun v106 =>
 K102 v106 H99 e100) H99 e100 fun v103 H104 e105 =>
 I.pick v86 v103 (.bool false) fun v107 =>
 I.gd v107 true (fun K108 => I.fa 158 4 v2 fun v112 =>
 K108 v112 H104 e105) H104 e105 fun v109 H110 e111 =>
 I.gd v107 true (fun K113 => I.load 65 H110 v109 fun v117 =>
 K113 v117 H110 e111) H110 e111 fun v114 H115 e116 =>
 I.gd v107 true (fun K118 => I.len v114 fun v122 =>
 K118 v122 H115 e116) H115 e116 fun v119 H120 e121 =>
 I.gd v107 true (fun K123 => I.bin .eql 3 true v119 (.int .i64 0) fun v127 =>
 K123 v127 H120 e121) H120 e121 fun v124 H125 e126 =>
 I.pick v107 v124 (.bool false) fun v128 =>
 I.gd v128 true (fun K129 => I.fa 158 5 v0 fun v133 =>
 K129 v133 H125 e126) H125 e126 fun v130 H131 e132 =>
 I.gd v128 true (fun K134 => I.load 3 H131 v130 fun v138 =>
 K134 v138 H131 e132) H131 e132 fun v135 H136 e137 =>
 I.gd v128 true (fun K139 => I.fa 158 5 v2 fun v143 =>
 K139 v143 H136 e137) H136 e137 fun v140 H141 e142 =>
 I.gd v128 true (fun K144 => I.load 3 H141 v140 fun v148 =>
 K144 v148 H141 e142) H141 e142 fun v145 H146 e147 =>
 I.gd v128 true (fun K149 => I.bin .eql 3 false v135 v145 fun v153 =>
 K149 v153 H146 e147) H146 e147 fun v150 H151 e152 =>
 I.pick v128 v150 (.bool false) fun v154 =>
 I.gd v154 true (fun K155 => I.fa 158 6 v0 fun v159 =>
 K155 v159 H151 e152) H151 e152 fun v156 H157 e158 =>
 I.gd v154 true (fun K160 => I.load 25 H157 v156 fun v164 =>
 K160 v164 H157 e158) H157 e158 fun v161 H162 e163 =>
 I.gd v154 true (fun K165 => I.fa 158 6 v2 fun v169 =>
 K165 v169 H162 e163) H162 e163 fun v166 H167 e168 =>
 I.gd v154 true (fun K170 => I.load 25 H167 v166 fun v174 =>
 K170 v174 H167 e168) H167 e168 fun v171 H172 e173 =>
 I.gd v154 true (fun K175 => I.bin .eql 25 false v161 v171 fun v179 =>
 K175 v179 H172 e173) H172 e173 fun v176 H177 e178 =>
 I.pick v154 v176 (.bool false) fun v180 =>
 I.fin n0 H177 e178 [v180] k) (lenQ H)
  | _ => I.bot⟩
theorem ok280 (R : Type) : TxtOk Tryz.prog U ann 280 (r280 R) := fun I fuel KO KK args H k => match args with
  | [] => .inl rfl
  | [_] => .inl rfl
  | [a0, a1] => .inr (by kernel_rfl)
  | _ :: _ :: _ :: _ => .inl rfl
/-- (silt/scan.log).at -/
noncomputable def r283 (R : Type) : Bx (Txt R) := ⟨fun I fuel KO KK args H k => match args with
  | [a0, a1] => (fun n0 =>
 I.box a0 H fun v0 H1 =>
 I.box a1 H1 fun v2 H3 =>
 I.alloc 260 H3 fun v4 H5 =>
 I.alloc 30 H5 fun v6 H7 =>
 I.fa 30 1 v2 fun v8 =>
 I.load 3 H7 v8 fun v9 =>
 I.head n0 444 [(0, a0), (1, a1), (2, v0), (3, v2), (4, v4), (5, v6), (6, .nili), (7, .nils), (8, v9), (9, .bad), (10, .bad), (11, .bad), (12, .bad), (13, .bad), (15, .bad), (16, .bad), (23, .bad), (40, .bad), (57, .bad), (65, .bad), (66, .bad), (67, .bad), (68, .bad), (72, .bad)] H7 false fun L10 H11 => loopM I n0 444 (fun L12 H13 e14 k15 =>
 I.fa 359 1 (lookQ L12 2) fun v16 =>
 I.fa 24 2 v16 fun v17 =>
 I.load 3 H13 v17 fun v18 =>
 I.bin .lss 3 false (lookQ L12 8) v18 fun v19 =>
 I.cond v19 (
 I.fa 359 0 (lookQ L12 2) fun v20 =>
 I.load 36 H13 v20 fun v21 =>
 I.fa 359 1 (lookQ L12 2) fun v22 =>
 I.load 24 H13 v22 fun v23 =>
 I.fa 30 0 (lookQ L12 3) fun v24 =>
 I.load 3 H13 v24 fun v25 =>
 KK 171 [v23, v25] H13 fun v26 H27 f28 => (fun e29 =>
 I.bin .add 3 false v26 (lookQ L12 8) fun v30 =>
 KK 172 [v21, v30] H27 fun v31 H32 f33 => (fun e34 =>
 I.ext v31 0 fun v35 =>
 I.ext v31 1 fun v36 =>
 I.alloc 269 H32 fun v37 H38 =>
 I.bare H38 (
 I.store n0 269 H38 v37 v35 fun H39 f40 => (fun e41 =>
 I.load 36 H27 v20 fun v42 =>
 I.same v42 v21 (
 I.bin .neq 33 true v36 (.int .i64 0) fun v43 =>
 I.cond v43 (
 I.build 260 [] fun v44 =>
 I.load 30 H39 (lookQ L12 3) fun v45 =>
 KK 153 [v36, (.str ⟨#[114, 101, 97, 100]⟩)] H39 fun v46 H47 f48 => (fun e49 =>
 I.store n0 260 H47 (lookQ L12 4) v44 fun H50 f51 => (fun e52 =>
 I.store n0 30 H50 (lookQ L12 5) v45 fun H53 f54 => (fun e55 =>
 I.load 30 H47 (lookQ L12 3) fun v56 =>
 I.same v56 v45 (
 I.load 30 H50 (lookQ L12 3) fun v57 =>
 I.same v57 v45 (
 k15 .ret [(0, (lookQ L12 0)), (1, (lookQ L12 1)), (2, (lookQ L12 2)), (3, (lookQ L12 3)), (4, (lookQ L12 4)), (5, (lookQ L12 5)), (6, v46), (7, (lookQ L12 7)), (8, (lookQ L12 8)), (9, v37), (10, v36), (11, (lookQ L12 11)), (12, (lookQ L12 12)), (13, (lookQ L12 13)), (15, (lookQ L12 15)), (16, (lookQ L12 16)), (23, v19), (40, v43), (57, (lookQ L12 57)), (65, (lookQ L12 65)), (66, (lookQ L12 66)), (67, (lookQ L12 67)), (68, (lookQ L12 68)), (72, (lookQ L12 72))] H53 e55))) (escQ f54 e52)) (escQ f51 e49)) (escQ f48 e41)) (
 I.load 269 H39 v37 fun v58 =>
 I.bslice 141 1 [(0, v58)] H39 fun v59 H60 =>
 I.blt true .append #[141, 141] n0 [(lookQ L12 7), v59] H60 fun v61 H62 f63 => (fun e64 =>
 I.bin .add 3 true (lookQ L12 8) (.int .i64 1) fun v65 =>
 k15 .normal [(0, (lookQ L12 0)), (1, (lookQ L12 1)), (2, (lookQ L12 2)), (3, (lookQ L12 3)), (4, (lookQ L12 4)), (5, (lookQ L12 5)), (6, (lookQ L12 6)), (7, v61), (8, v65), (9, v37), (10, v36), (11, (lookQ L12 11)), (12, (lookQ L12 12)), (13, (lookQ L12 13)), (15, (lookQ L12 15)), (16, (lookQ L12 16)), (23, v19), (40, v43), (57, (lookQ L12 57)), (65, (lookQ L12 65)), (66, (lookQ L12 66)), (67, (lookQ L12 67)), (68, (lookQ L12 68)), (72, (lookQ L12 72))] H62 e64) (escQ f63 e41)))) (escQ f40 e34))) (escQ f33 e29)) (escQ f28 e14)) (
 k15 (.exit 0) [(0, (lookQ L12 0)), (1, (lookQ L12 1)), (2, (lookQ L12 2)), (3, (lookQ L12 3)), (4, (lookQ L12 4)), (5, (lookQ L12 5)), (6, (lookQ L12 6)), (7, (lookQ L12 7)), (8, (lookQ L12 8)), (9, (lookQ L12 9)), (10, (lookQ L12 10)), (11, (lookQ L12 11)), (12, (lookQ L12 12)), (13, (lookQ L12 13)), (15, (lookQ L12 15)), (16, (lookQ L12 16)), (23, v19), (40, (lookQ L12 40)), (57, (lookQ L12 57)), (65, (lookQ L12 65)), (66, (lookQ L12 66)), (67, (lookQ L12 67)), (68, (lookQ L12 68)), (72, (lookQ L12 72))] H13 e14)) fuel L10 H11 false (selK I.bot [(0, (fun L66 H67 e68 =>
 I.fa 30 2 (lookQ L66 3) fun v69 =>
 I.load 22 H67 v69 fun v70 =>
 KK 309 [v70, (lookQ L66 7)] H67 fun v71 H72 f73 => (fun e74 =>
 I.ext v71 0 fun v75 =>
 I.ext v71 1 fun v76 =>
 I.alloc 445 H72 fun v77 H78 =>
 I.store n0 445 H78 v77 v75 fun H79 f80 => (fun e81 =>
 I.un .not v76 fun v82 =>
 I.cond v82 (
 I.build 260 [] fun v83 =>
 I.load 30 H79 (lookQ L66 3) fun v84 =>
 KK 153 [(.int .i64 17), (.str ⟨#[103, 114, 111, 117, 112]⟩)] H79 fun v85 H86 f87 => (fun e88 =>
 I.store n0 260 H86 (lookQ L66 4) v83 fun H89 f90 => (fun e91 =>
 I.store n0 30 H89 (lookQ L66 5) v84 fun H92 f93 => (fun e94 =>
 I.load 30 H86 (lookQ L66 3) fun v95 =>
 I.same v95 v84 (
 I.load 30 H89 (lookQ L66 3) fun v96 =>
 I.same v96 v84 (
 I.load 260 H92 (lookQ L66 4) fun v97 =>
 I.load 30 H92 (lookQ L66 5) fun v98 =>
 I.fin n0 H92 e94 [v97, v98, v85] k))) (escQ f93 e91)) (escQ f90 e88)) (escQ f87 e81)) (
 I.fa 445 0 v77 fun v99 =>
 I.load 162 H79 v99 fun v100 =>
 I.build 260 [(0, v100)] fun v101 =>
 I.alloc 260 H79 fun v102 H103 =>
 I.store n0 260 H103 v102 v101 fun H104 f105 => (fun e106 =>
 I.fa 445 1 v77 fun v107 =>
 I.load 28 H104 v107 fun v108 =>
 I.len v108 fun v109 =>
 I.head n0 258254417031933732924 [(0, (lookQ L66 0)), (1, (lookQ L66 1)), (2, (lookQ L66 2)), (3, (lookQ L66 3)), (4, (lookQ L66 4)), (5, (lookQ L66 5)), (6, (lookQ L66 6)), (7, (lookQ L66 7)), (8, (lookQ L66 8)), (9, (lookQ L66 9)), (10, (lookQ L66 10)), (11, v77), (12, v76), (13, v102), (15, (lookQ L66 15)), (16, (lookQ L66 16)), (23, (lookQ L66 23)), (40, (lookQ L66 40)), (57, v82), (65, v108), (66, v109), (67, (.int .i64 0)), (68, (lookQ L66 68)), (72, (lookQ L66 72))] H104 e106 fun L110 H111 => loopM I n0 258254417031933732924 (fun L112 H113 e114 k115 =>
 I.bin .lss 3 false (lookQ L112 67) (lookQ L112 66) fun v116 =>
 I.cond v116 (
 I.ia 28 (lookQ L112 65) (lookQ L112 67) fun v117 =>
 I.load 3 H113 v117 fun v118 =>
 I.join (fun L119 H120 e121 =>
 I.fa 260 1 (lookQ L119 13) fun v122 =>
 I.load 28 H120 v122 fun v123 =>
 I.bslice 28 1 [(0, (lookQ L119 16))] H120 fun v124 H125 =>
 I.blt true .append #[28, 28] n0 [v123, v124] H125 fun v126 H127 f128 => (fun e129 =>
 I.fa 260 1 (lookQ L119 13) fun v130 =>
 I.store n0 28 H127 v130 v126 fun H131 f132 => (fun e133 =>
 I.bin .add 3 true (lookQ L119 67) (.int .i64 1) fun v134 =>
 k115 .normal [(0, (lookQ L119 0)), (1, (lookQ L119 1)), (2, (lookQ L119 2)), (3, (lookQ L119 3)), (4, (lookQ L119 4)), (5, (lookQ L119 5)), (6, (lookQ L119 6)), (7, (lookQ L119 7)), (8, (lookQ L119 8)), (9, (lookQ L119 9)), (10, (lookQ L119 10)), (11, (lookQ L119 11)), (12, (lookQ L119 12)), (13, (lookQ L119 13)), (15, (lookQ L119 15)), (16, (lookQ L119 16)), (23, (lookQ L119 23)), (40, (lookQ L119 40)), (57, (lookQ L119 57)), (65, (lookQ L119 65)), (66, (lookQ L119 66)), (67, v134), (68, (lookQ L119 68)), (72, (lookQ L119 72))] H131 e133) (escQ f132 e129)) (escQ f128 e121)) fun j135 =>
 I.bin .geq 3 true v118 (.int .i64 0) fun v136 =>
 I.cond v136 (
 I.fa 359 1 (lookQ L112 2) fun v137 =>
 I.load 24 H113 v137 fun v138 =>
 I.fa 30 0 (lookQ L112 3) fun v139 =>
 I.load 3 H113 v139 fun v140 =>
 I.fa 30 1 (lookQ L112 3) fun v141 =>
 I.load 3 H113 v141 fun v142 =>
 KK 171 [v138, v140] H113 fun v143 H144 f145 => (fun e146 =>
 I.bin .add 3 false v143 v142 fun v147 =>
 I.bin .add 3 false v147 v118 fun v148 =>
 I.load 3 H144 v141 fun v149 =>
 I.same v149 v142 (
 j135 [(0, (lookQ L112 0)), (1, (lookQ L112 1)), (2, (lookQ L112 2)), (3, (lookQ L112 3)), (4, (lookQ L112 4)), (5, (lookQ L112 5)), (6, (lookQ L112 6)), (7, (lookQ L112 7)), (8, (lookQ L112 8)), (9, (lookQ L112 9)), (10, (lookQ L112 10)), (11, (lookQ L112 11)), (12, (lookQ L112 12)), (13, (lookQ L112 13)), (15, v118), (16, v148), (23, (lookQ L112 23)), (40, (lookQ L112 40)), (57, (lookQ L112 57)), (65, (lookQ L112 65)), (66, (lookQ L112 66)), (67, (lookQ L112 67)), (68, v116), (72, v136)] H144 e146)) (escQ f145 e114)) (
 j135 [(0, (lookQ L112 0)), (1, (lookQ L112 1)), (2, (lookQ L112 2)), (3, (lookQ L112 3)), (4, (lookQ L112 4)), (5, (lookQ L112 5)), (6, (lookQ L112 6)), (7, (lookQ L112 7)), (8, (lookQ L112 8)), (9, (lookQ L112 9)), (10, (lookQ L112 10)), (11, (lookQ L112 11)), (12, (lookQ L112 12)), (13, (lookQ L112 13)), (15, v118), (16, (.int .i64 0)), (23, (lookQ L112 23)), (40, (lookQ L112 40)), (57, (lookQ L112 57)), (65, (lookQ L112 65)), (66, (lookQ L112 66)), (67, (lookQ L112 67)), (68, v116), (72, v136)] H113 e114)) (
 k115 (.exit 2) [(0, (lookQ L112 0)), (1, (lookQ L112 1)), (2, (lookQ L112 2)), (3, (lookQ L112 3)), (4, (lookQ L112 4)), (5, (lookQ L112 5)), (6, (lookQ L112 6)), (7, (lookQ L112 7)), (8, (lookQ L112 8)), (9, (lookQ L112 9)), (10, (lookQ L112 10)), (11, (lookQ L112 11)), (12, (lookQ L112 12)), (13, (lookQ L112 13)), (15, (lookQ L112 15)), (16, (lookQ L112 16)), (23, (lookQ L112 23)), (40, (lookQ L112 40)), (57, (lookQ L112 57)), (65, (lookQ L112 65)), (66, (lookQ L112 66)), (67, (lookQ L112 67)), (68, v116), (72, (lookQ L112 72))] H113 e114)) fuel L110 H111 e106 (selK I.bot [(2, (fun L150 H151 e152 =>
 I.fa 30 1 (lookQ L150 3) fun v153 =>
 I.load 3 H151 v153 fun v154 =>
 I.fa 445 2 (lookQ L150 11) fun v155 =>
 I.load 3 H151 v155 fun v156 =>
 I.bin .add 3 false v154 v156 fun v157 =>
 I.fa 30 1 (lookQ L150 3) fun v158 =>
 I.store n0 3 H151 v158 v157 fun H159 f160 => (fun e161 =>
 I.fa 30 2 (lookQ L150 3) fun v162 =>
 I.load 22 H159 v162 fun v163 =>
 I.fa 445 3 (lookQ L150 11) fun v164 =>
 I.load 3 H159 v164 fun v165 =>
 I.conv 3 22 v165 H159 fun v166 H167 =>
 I.bin .add 22 false v163 v166 fun v168 =>
 I.fa 30 2 (lookQ L150 3) fun v169 =>
 I.store n0 22 H167 v169 v168 fun H170 f171 => (fun e172 =>
 I.load 260 H170 (lookQ L150 13) fun v173 =>
 I.load 30 H170 (lookQ L150 3) fun v174 =>
 I.store n0 260 H170 (lookQ L150 4) v173 fun H175 f176 => (fun e177 =>
 I.store n0 30 H175 (lookQ L150 5) v174 fun H178 f179 => (fun e180 =>
 I.load 30 H175 (lookQ L150 3) fun v181 =>
 I.same v181 v174 (
 I.load 260 H178 (lookQ L150 4) fun v182 =>
 I.load 30 H178 (lookQ L150 5) fun v183 =>
 I.fin n0 H178 e180 [v182, v183, .nili] k)) (escQ f179 e177)) (escQ f176 e172)) (escQ f171 e161)) (escQ f160 e152)))] (fun _ _ _ => I.bot))) (escQ f105 e81))) (escQ f80 e74)) (escQ f73 e68)))] (fun L184 H185 e186 =>
 I.load 260 H185 (lookQ L184 4) fun v187 =>
 I.load 30 H185 (lookQ L184 5) fun v188 =>
 I.fin n0 H185 e186 [v187, v188, (lookQ L184 6)] k))) (lenQ H)
  | _ => I.bot⟩
theorem ok283 (R : Type) : TxtOk Tryz.prog U ann 283 (r283 R) := fun I fuel KO KK args H k => match args with
  | [] => .inl rfl
  | [_] => .inl rfl
  | [a0, a1] => .inr (by kernel_rfl)
  | _ :: _ :: _ :: _ => .inl rfl
/-- silt/region.roots -/
noncomputable def r288 (R : Type) : Bx (Txt R) := ⟨fun I fuel KO KK args H k => match args with
  | [a0] => (fun n0 =>
 I.box a0 H fun v0 H1 =>
 I.fa 27 5 v0 fun v2 =>
 I.load 25 H1 v2 fun v3 =>
 I.head n0 1538 [(0, a0), (1, v0), (2, .nili), (3, .bad), (4, .bad), (7, .bad), (9, v3), (10, (.int .i64 0)), (11, .bad), (34, .bad)] H1 false fun L4 H5 => loopM I n0 1538 (fun L6 H7 e8 k9 =>
 I.bin .lss 3 true (lookQ L6 10) (.int .i64 8) fun v10 =>
 I.cond v10 (
 I.idx 25 (lookQ L6 9) (lookQ L6 10) fun v11 =>
 I.fa 27 1 (lookQ L6 1) fun v12 =>
 I.load 24 H7 v12 fun v13 =>
 KK 183 [v13, v11] H7 fun v14 H15 f16 => (fun e17 =>
 I.ext v14 0 fun v18 =>
 I.ext v14 1 fun v19 =>
 I.ext v14 2 fun v20 =>
 I.bin .neq 3 true v11 (.int .i64 0) fun v21 =>
 I.gd v21 true (fun K22 => K22 v20 H15 e17) H15 e17 fun v23 H24 e25 =>
 I.gd v21 true (fun K26 => I.un .not v23 fun v30 =>
 K26 v30 H24 e25) H24 e25 fun v27 H28 e29 =>
 I.gd v21 true (fun K31 => K31 v27 H28 e29) H28 e29 fun v32 H33 e34 =>
 I.gd v32 false (fun K35 => K35 (lookQ L6 10) H33 e34) H33 e34 fun v36 H37 e38 =>
 I.gd v32 false (fun K39 => I.fa 27 1 (lookQ L6 1) fun v43 =>
 K39 v43 H37 e38) H37 e38 fun v40 H41 e42 =>
 I.gd v32 false (fun K44 => I.load 24 H41 v40 fun v48 =>
 K44 v48 H41 e42) H41 e42 fun v45 H46 e47 =>
 I.gd v32 false (fun K49 => KK 96 [v45] H46 fun v53 H54 f55 => (fun e56 =>
 K49 v53 H54 e56) (escQ f55 e47)) H46 e47 fun v50 H51 e52 =>
 I.gd v32 false (fun K57 => I.bin .geq 3 false v36 v50 fun v61 =>
 K57 v61 H51 e52) H51 e52 fun v58 H59 e60 =>
 I.gd v21 true (fun K62 => I.pick v32 (.bool true) v58 fun v66 =>
 K62 v66 H59 e60) H59 e60 fun v63 H64 e65 =>
 I.pick v21 v63 (.bool false) fun v67 =>
 I.cond v67 (
 KK 153 [(.int .i64 11), (.str ⟨#[114, 111, 111, 116]⟩)] H64 fun v68 H69 f70 => (fun e71 =>
 k9 .ret [(0, (lookQ L6 0)), (1, (lookQ L6 1)), (2, v68), (3, (lookQ L6 10)), (4, v11), (7, v20), (9, (lookQ L6 9)), (10, (lookQ L6 10)), (11, v10), (34, v67)] H69 e71) (escQ f70 e65)) (
 I.bin .add 3 true (lookQ L6 10) (.int .i64 1) fun v72 =>
 k9 .normal [(0, (lookQ L6 0)), (1, (lookQ L6 1)), (2, (lookQ L6 2)), (3, (lookQ L6 10)), (4, v11), (7, v20), (9, (lookQ L6 9)), (10, v72), (11, v10), (34, v67)] H64 e65)) (escQ f16 e8)) (
 k9 (.exit 0) [(0, (lookQ L6 0)), (1, (lookQ L6 1)), (2, (lookQ L6 2)), (3, (lookQ L6 3)), (4, (lookQ L6 4)), (7, (lookQ L6 7)), (9, (lookQ L6 9)), (10, (lookQ L6 10)), (11, v10), (34, (lookQ L6 34))] H7 e8)) fuel L4 H5 false (selK I.bot [(0, (fun L73 H74 e75 =>
 I.fin n0 H74 e75 [.nili] k))] (fun L76 H77 e78 =>
 I.fin n0 H77 e78 [(lookQ L76 2)] k))) (lenQ H)
  | _ => I.bot⟩
theorem ok288 (R : Type) : TxtOk Tryz.prog U ann 288 (r288 R) := fun I fuel KO KK args H k => match args with
  | [] => .inl rfl
  | [a0] => .inr (by kernel_rfl)
  | _ :: _ :: _ => .inl rfl
/-- silt/group.good -/
noncomputable def r289 (R : Type) : Bx (Txt R) := ⟨fun I fuel KO KK args H k => match args with
  | [a0] => (fun n0 =>
 I.len a0 fun v0 =>
 I.bin .lss 3 true v0 (.int .i64 1) fun v1 =>
 I.gd v1 false (fun K2 => K2 a0 H false) H false fun v3 H4 e5 =>
 I.gd v1 false (fun K6 => I.len v3 fun v10 =>
 K6 v10 H4 e5) H4 e5 fun v7 H8 e9 =>
 I.gd v1 false (fun K11 => I.bin .gtr 3 true v7 (.int .i64 64) fun v15 =>
 K11 v15 H8 e9) H8 e9 fun v12 H13 e14 =>
 I.pick v1 (.bool true) v12 fun v16 =>
 I.cond v16 (
 I.fin n0 H13 e14 [(.bool false)] k) (
 I.mkM H13 fun v17 H18 =>
 I.len a0 fun v19 =>
 I.head n0 3670024 [(0, a0), (2, (.bool false)), (3, v17), (4, .bad), (5, .bad), (7, .bad), (9, .bad), (17, v16), (19, a0), (20, v19), (21, (.int .i64 0)), (22, .bad), (39, .bad), (54, .bad)] H18 e14 fun L20 H21 => loopM I n0 3670024 (fun L22 H23 e24 k25 =>
 I.bin .lss 3 false (lookQ L22 21) (lookQ L22 20) fun v26 =>
 I.cond v26 (
 I.ia 162 (lookQ L22 19) (lookQ L22 21) fun v27 =>
 I.load 160 H23 v27 fun v28 =>
 I.alloc 160 H23 fun v29 H30 =>
 I.store n0 160 H30 v29 v28 fun H31 f32 => (fun e33 =>
 I.fa 160 0 v29 fun v34 =>
 I.load 156 H31 v34 fun v35 =>
 KK 310 [v35] H31 fun v36 H37 f38 => (fun e39 =>
 I.look 448 H37 (lookQ L22 3) v36 true fun v40 =>
 I.ext v40 0 fun v41 =>
 I.ext v40 1 fun v42 =>
 I.gd v42 false (fun K43 => I.load 160 H37 v29 fun v47 =>
 K43 v47 H37 e39) H37 e39 fun v44 H45 e46 =>
 I.gd v42 false (fun K48 => KK 311 [v44] H45 fun v52 H53 f54 => (fun e55 =>
 K48 v52 H53 e55) (escQ f54 e46)) H45 e46 fun v49 H50 e51 =>
 I.gd v42 false (fun K56 => I.un .not v49 fun v60 =>
 K56 v60 H50 e51) H50 e51 fun v57 H58 e59 =>
 I.pick v42 (.bool true) v57 fun v61 =>
 I.cond v61 (
 k25 .ret [(0, (lookQ L22 0)), (2, (.bool false)), (3, (lookQ L22 3)), (4, (lookQ L22 21)), (5, v29), (7, v42), (9, (lookQ L22 9)), (17, (lookQ L22 17)), (19, (lookQ L22 19)), (20, (lookQ L22 20)), (21, (lookQ L22 21)), (22, v26), (39, v61), (54, (lookQ L22 54))] H58 e59) (
 I.fa 160 0 v29 fun v62 =>
 I.load 156 H58 v62 fun v63 =>
 KK 310 [v63] H58 fun v64 H65 f66 => (fun e67 =>
 I.upd 448 (lookQ L22 3) v64 (lookQ L22 21) H65 fun H68 =>
 I.fa 160 0 v29 fun v69 =>
 I.load 156 H68 v69 fun v70 =>
 I.bslice 288 1 [(0, v70)] H68 fun v71 H72 =>
 I.build 290 [(2, v71)] fun v73 =>
 KK 249 [v73] H72 fun v74 H75 f76 => (fun e77 =>
 I.ext v74 0 fun v78 =>
 I.ext v74 1 fun v79 =>
 I.alloc 269 H75 fun v80 H81 =>
 I.store n0 269 H81 v80 v78 fun H82 f83 => (fun e84 =>
 I.bin .neq 33 true v79 (.int .i64 0) fun v85 =>
 I.cond v85 (
 k25 .ret [(0, (lookQ L22 0)), (2, (.bool false)), (3, (lookQ L22 3)), (4, (lookQ L22 21)), (5, v29), (7, v42), (9, v79), (17, (lookQ L22 17)), (19, (lookQ L22 19)), (20, (lookQ L22 20)), (21, (lookQ L22 21)), (22, v26), (39, v61), (54, v85)] H82 e84) (
 I.bin .add 3 true (lookQ L22 21) (.int .i64 1) fun v86 =>
 k25 .normal [(0, (lookQ L22 0)), (2, (lookQ L22 2)), (3, (lookQ L22 3)), (4, (lookQ L22 21)), (5, v29), (7, v42), (9, v79), (17, (lookQ L22 17)), (19, (lookQ L22 19)), (20, (lookQ L22 20)), (21, v86), (22, v26), (39, v61), (54, v85)] H82 e84)) (escQ f83 e77)) (escQ f76 e67)) (escQ f66 e59))) (escQ f38 e33)) (escQ f32 e24)) (
 k25 (.exit 0) [(0, (lookQ L22 0)), (2, (lookQ L22 2)), (3, (lookQ L22 3)), (4, (lookQ L22 4)), (5, (lookQ L22 5)), (7, (lookQ L22 7)), (9, (lookQ L22 9)), (17, (lookQ L22 17)), (19, (lookQ L22 19)), (20, (lookQ L22 20)), (21, (lookQ L22 21)), (22, v26), (39, (lookQ L22 39)), (54, (lookQ L22 54))] H23 e24)) fuel L20 H21 e14 (selK I.bot [(0, (fun L87 H88 e89 =>
 I.fin n0 H88 e89 [(.bool true)] k))] (fun L90 H91 e92 =>
 I.fin n0 H91 e92 [(lookQ L90 2)] k)))) (lenQ H)
  | _ => I.bot⟩
theorem ok289 (R : Type) : TxtOk Tryz.prog U ann 289 (r289 R) := fun I fuel KO KK args H k => match args with
  | [] => .inl rfl
  | [a0] => .inr (by kernel_rfl)
  | _ :: _ :: _ => .inl rfl
/-- silt/group.part -/
noncomputable def r290 (R : Type) : Bx (Txt R) := ⟨fun I fuel KO KK args H k => match args with
  | [a0, a1, a2] => (fun n0 =>
 KK 312 [a2] H fun v0 H1 f2 => (fun e3 =>
 I.build 290 [(0, a0), (1, a1), (2, v0)] fun v4 =>
 KK 249 [v4] H1 fun v5 H6 f7 => (fun e8 =>
 I.ext v5 0 fun v9 =>
 I.ext v5 1 fun v10 =>
 I.alloc 269 H6 fun v11 H12 =>
 I.store n0 269 H12 v11 v9 fun H13 f14 => (fun e15 =>
 I.bin .neq 33 true v10 (.int .i64 0) fun v16 =>
 I.cond v16 (
 I.fin n0 H13 e15 [.nils, .nils, v10] k) (
 I.load 269 H13 v11 fun v17 =>
 I.bslice 141 1 [(0, v17)] H13 fun v18 H19 =>
 I.len a2 fun v20 =>
 I.head n0 15032391681 [(0, a0), (1, a1), (2, a2), (6, .nils), (7, .nils), (8, (.int .i64 0)), (9, v11), (10, v10), (11, v18), (12, .nils), (14, .bad), (15, .bad), (16, .bad), (27, v16), (31, a2), (32, v20), (33, (.int .i64 0)), (34, .bad), (41, .bad), (53, .bad)] H19 e15 fun L21 H22 => loopM I n0 15032391681 (fun L23 H24 e25 k26 =>
 I.bin .lss 3 false (lookQ L23 33) (lookQ L23 32) fun v27 =>
 I.cond v27 (
 I.join (fun L28 H29 e30 =>
 I.bin .add 3 true (lookQ L28 33) (.int .i64 1) fun v31 =>
 k26 .normal [(0, (lookQ L28 0)), (1, (lookQ L28 1)), (2, (lookQ L28 2)), (6, (lookQ L28 6)), (7, (lookQ L28 7)), (8, (lookQ L28 8)), (9, (lookQ L28 9)), (10, (lookQ L28 10)), (11, (lookQ L28 11)), (12, (lookQ L28 12)), (14, (lookQ L28 14)), (15, (lookQ L28 15)), (16, (lookQ L28 16)), (27, (lookQ L28 27)), (31, (lookQ L28 31)), (32, (lookQ L28 32)), (33, v31), (34, (lookQ L28 34)), (41, (lookQ L28 41)), (53, (lookQ L28 53))] H29 e30) fun j32 =>
 I.ia 162 (lookQ L23 31) (lookQ L23 33) fun v33 =>
 I.load 160 H24 v33 fun v34 =>
 I.alloc 160 H24 fun v35 H36 =>
 I.store n0 160 H36 v35 v34 fun H37 f38 => (fun e39 =>
 I.fa 160 0 v35 fun v40 =>
 I.fa 156 0 v40 fun v41 =>
 I.load 3 H37 v41 fun v42 =>
 KK 313 [v42] H37 fun v43 H44 f45 => (fun e46 =>
 I.un .not v43 fun v47 =>
 I.cond v47 (
 I.bslice 28 1 [(0, (.int .i64 (-1)))] H44 fun v48 H49 =>
 I.blt true .append #[28, 28] n0 [(lookQ L23 12), v48] H49 fun v50 H51 f52 => (fun e53 =>
 j32 [(0, (lookQ L23 0)), (1, (lookQ L23 1)), (2, (lookQ L23 2)), (6, (lookQ L23 6)), (7, (lookQ L23 7)), (8, (lookQ L23 8)), (9, (lookQ L23 9)), (10, (lookQ L23 10)), (11, (lookQ L23 11)), (12, v50), (14, v35), (15, (lookQ L23 15)), (16, (lookQ L23 16)), (27, (lookQ L23 27)), (31, (lookQ L23 31)), (32, (lookQ L23 32)), (33, (lookQ L23 33)), (34, v27), (41, v47), (53, (lookQ L23 53))] H51 e53) (escQ f52 e46)) (
 I.fa 160 1 v35 fun v54 =>
 I.load 158 H44 v54 fun v55 =>
 KK 248 [v55, (lookQ L23 0)] H44 fun v56 H57 f58 => (fun e59 =>
 I.ext v56 0 fun v60 =>
 I.ext v56 1 fun v61 =>
 I.alloc 269 H57 fun v62 H63 =>
 I.store n0 269 H63 v62 v60 fun H64 f65 => (fun e66 =>
 I.bin .neq 33 true v61 (.int .i64 0) fun v67 =>
 I.cond v67 (
 k26 .ret [(0, (lookQ L23 0)), (1, (lookQ L23 1)), (2, (lookQ L23 2)), (6, .nils), (7, .nils), (8, v61), (9, (lookQ L23 9)), (10, (lookQ L23 10)), (11, (lookQ L23 11)), (12, (lookQ L23 12)), (14, v35), (15, v62), (16, v61), (27, (lookQ L23 27)), (31, (lookQ L23 31)), (32, (lookQ L23 32)), (33, (lookQ L23 33)), (34, v27), (41, v47), (53, v67)] H64 e66) (
 I.len (lookQ L23 11) fun v68 =>
 I.bslice 28 1 [(0, v68)] H64 fun v69 H70 =>
 I.blt true .append #[28, 28] n0 [(lookQ L23 12), v69] H70 fun v71 H72 f73 => (fun e74 =>
 I.load 269 H72 v62 fun v75 =>
 I.bslice 141 1 [(0, v75)] H72 fun v76 H77 =>
 I.blt true .append #[141, 141] n0 [(lookQ L23 11), v76] H77 fun v78 H79 f80 => (fun e81 =>
 j32 [(0, (lookQ L23 0)), (1, (lookQ L23 1)), (2, (lookQ L23 2)), (6, (lookQ L23 6)), (7, (lookQ L23 7)), (8, (lookQ L23 8)), (9, (lookQ L23 9)), (10, (lookQ L23 10)), (11, v78), (12, v71), (14, v35), (15, v62), (16, v61), (27, (lookQ L23 27)), (31, (lookQ L23 31)), (32, (lookQ L23 32)), (33, (lookQ L23 33)), (34, v27), (41, v47), (53, v67)] H79 e81) (escQ f80 e74)) (escQ f73 e66))) (escQ f65 e59)) (escQ f58 e46))) (escQ f45 e39)) (escQ f38 e25)) (
 k26 (.exit 0) [(0, (lookQ L23 0)), (1, (lookQ L23 1)), (2, (lookQ L23 2)), (6, (lookQ L23 6)), (7, (lookQ L23 7)), (8, (lookQ L23 8)), (9, (lookQ L23 9)), (10, (lookQ L23 10)), (11, (lookQ L23 11)), (12, (lookQ L23 12)), (14, (lookQ L23 14)), (15, (lookQ L23 15)), (16, (lookQ L23 16)), (27, (lookQ L23 27)), (31, (lookQ L23 31)), (32, (lookQ L23 32)), (33, (lookQ L23 33)), (34, v27), (41, (lookQ L23 41)), (53, (lookQ L23 53))] H24 e25)) fuel L21 H22 e15 (selK I.bot [(0, (fun L82 H83 e84 =>
 I.fin n0 H83 e84 [(lookQ L82 11), (lookQ L82 12), (.int .i64 0)] k)), (1, (fun L85 H86 e87 =>
 I.bot))] (fun L88 H89 e90 =>
 I.fin n0 H89 e90 [(lookQ L88 6), (lookQ L88 7), (lookQ L88 8)] k)))) (escQ f14 e8)) (escQ f7 e3)) (escQ f2 false)) (lenQ H)
  | _ => I.bot⟩
theorem ok290 (R : Type) : TxtOk Tryz.prog U ann 290 (r290 R) := fun I fuel KO KK args H k => match args with
  | [] => .inl rfl
  | [_] => .inl rfl
  | [_, _] => .inl rfl
  | [a0, a1, a2] => .inr (by kernel_rfl)
  | _ :: _ :: _ :: _ :: _ => .inl rfl
/-- silt/summary.good -/
noncomputable def r291 (R : Type) : Bx (Txt R) := ⟨fun I fuel KO KK args H k => match args with
  | [a0] => (fun n0 =>
 I.box a0 H fun v0 H1 =>
 I.fa 156 0 v0 fun v2 =>
 I.load 3 H1 v2 fun v3 =>
 I.join (fun L4 H5 e6 =>
 I.fin n0 H5 e6 [(.bool false)] k) fun j7 =>
 I.join (fun L8 H9 e10 =>
 I.fa 156 1 (lookQ L8 1) fun v11 =>
 I.load 3 H9 v11 fun v12 =>
 I.bin .geq 3 true v12 (.int .i64 0) fun v13 =>
 I.gd v13 true (fun K14 => I.fa 156 1 (lookQ L8 1) fun v18 =>
 K14 v18 H9 e10) H9 e10 fun v15 H16 e17 =>
 I.gd v13 true (fun K19 => I.load 3 H16 v15 fun v23 =>
 K19 v23 H16 e17) H16 e17 fun v20 H21 e22 =>
 I.gd v13 true (fun K24 => K24 (lookQ L8 3) H21 e22) H21 e22 fun v25 H26 e27 =>
 I.gd v13 true (fun K28 => I.bin .lss 3 false v20 v25 fun v32 =>
 K28 v32 H26 e27) H26 e27 fun v29 H30 e31 =>
 I.pick v13 v29 (.bool false) fun v33 =>
 I.fin n0 H30 e31 [v33] k) fun j34 =>
 I.bin .eql 3 true v3 (.int .i64 3) fun v35 =>
 I.cond v35 (
 j34 [(0, a0), (1, v0), (2, (.bool false)), (3, (.int .i64 8)), (5, v3), (6, v35), (8, .bad)] H1 false) (
 I.join (fun L36 H37 e38 =>
 I.cond (lookQ L36 8) (
 j34 [(0, (lookQ L36 0)), (1, (lookQ L36 1)), (2, (lookQ L36 2)), (3, (lookQ L36 3)), (5, (lookQ L36 5)), (6, (lookQ L36 6)), (8, (lookQ L36 8))] H37 e38) (
 j7 [(0, (lookQ L36 0)), (1, (lookQ L36 1)), (2, (lookQ L36 2)), (3, (lookQ L36 3)), (5, (lookQ L36 5)), (6, (lookQ L36 6)), (8, (lookQ L36 8))] H37 e38)) fun j39 =>
 I.bin .eql 3 true v3 (.int .i64 1) fun v40 =>
 I.cond v40 (
 j39 [(0, a0), (1, v0), (2, (.bool false)), (3, (.int .i64 64)), (5, v3), (6, v35), (8, v40)] H1 false) (
 I.bin .eql 3 true v3 (.int .i64 2) fun v41 =>
 I.cond v41 (
 j39 [(0, a0), (1, v0), (2, (.bool false)), (3, (.int .i64 64)), (5, v3), (6, v35), (8, v41)] H1 false) (
 I.bin .eql 3 true v3 (.int .i64 4) fun v42 =>
 I.cond v42 (
 j39 [(0, a0), (1, v0), (2, (.bool false)), (3, (.int .i64 64)), (5, v3), (6, v35), (8, v42)] H1 false) (
 I.bin .eql 3 true v3 (.int .i64 5) fun v43 =>
 j39 [(0, a0), (1, v0), (2, (.bool false)), (3, (.int .i64 64)), (5, v3), (6, v35), (8, v43)] H1 false))))) (lenQ H)
  | _ => I.bot⟩
theorem ok291 (R : Type) : TxtOk Tryz.prog U ann 291 (r291 R) := fun I fuel KO KK args H k => match args with
  | [] => .inl rfl
  | [a0] => .inr (by kernel_rfl)
  | _ :: _ :: _ => .inl rfl
/-- math/bits.Len64 -/
noncomputable def r304 (R : Type) : Bx (Txt R) := ⟨fun I fuel KO KK args H k => match args with
  | [a0] => (fun n0 =>
 I.join (fun L0 H1 e2 =>
 I.join (fun L3 H4 e5 =>
 I.join (fun L6 H7 e8 =>
 I.conv 397 5 (lookQ L6 0) H7 fun v9 H10 =>
 I.idx 9 (.str ⟨#[0, 1, 2, 2, 3, 3, 3, 3, 4, 4, 4, 4, 4, 4, 4, 4, 5, 5, 5, 5, 5, 5, 5, 5, 5, 5, 5, 5, 5, 5, 5, 5, 6, 6, 6, 6, 6, 6, 6, 6, 6, 6, 6, 6, 6, 6, 6, 6, 6, 6, 6, 6, 6, 6, 6, 6, 6, 6, 6, 6, 6, 6, 6, 6, 7, 7, 7, 7, 7, 7, 7, 7, 7, 7, 7, 7, 7, 7, 7, 7, 7, 7, 7, 7, 7, 7, 7, 7, 7, 7, 7, 7, 7, 7, 7, 7, 7, 7, 7, 7, 7, 7, 7, 7, 7, 7, 7, 7, 7, 7, 7, 7, 7, 7, 7, 7, 7, 7, 7, 7, 7, 7, 7, 7, 7, 7, 7, 7, 8, 8, 8, 8, 8, 8, 8, 8, 8, 8, 8, 8, 8, 8, 8, 8, 8, 8, 8, 8, 8, 8, 8, 8, 8, 8, 8, 8, 8, 8, 8, 8, 8, 8, 8, 8, 8, 8, 8, 8, 8, 8, 8, 8, 8, 8, 8, 8, 8, 8, 8, 8, 8, 8, 8, 8, 8, 8, 8, 8, 8, 8, 8, 8, 8, 8, 8, 8, 8, 8, 8, 8, 8, 8, 8, 8, 8, 8, 8, 8, 8, 8, 8, 8, 8, 8, 8, 8, 8, 8, 8, 8, 8, 8, 8, 8, 8, 8, 8, 8, 8, 8, 8, 8, 8, 8, 8, 8, 8, 8, 8, 8, 8, 8, 8, 8, 8, 8, 8, 8, 8, 8, 8, 8, 8, 8, 8, 8]⟩) v9 fun v11 =>
 I.conv 5 3 v11 H10 fun v12 H13 =>
 I.bin .add 3 false (lookQ L6 2) v12 fun v14 =>
 I.fin n0 H13 e8 [v14] k) fun j15 =>
 I.bin .geq 397 true (lookQ L3 0) (.int .u64 256) fun v16 =>
 I.cond v16 (
 I.bin .shr 397 true (lookQ L3 0) (.int .u64 8) fun v17 =>
 I.bin .add 3 true (lookQ L3 2) (.int .i64 8) fun v18 =>
 j15 [(0, v17), (2, v18), (4, (lookQ L3 4)), (8, (lookQ L3 8)), (14, v16)] H4 e5) (
 j15 [(0, (lookQ L3 0)), (2, (lookQ L3 2)), (4, (lookQ L3 4)), (8, (lookQ L3 8)), (14, v16)] H4 e5)) fun j19 =>
 I.bin .geq 397 true (lookQ L0 0) (.int .u64 65536) fun v20 =>
 I.cond v20 (
 I.bin .shr 397 true (lookQ L0 0) (.int .u64 16) fun v21 =>
 I.bin .add 3 true (lookQ L0 2) (.int .i64 16) fun v22 =>
 j19 [(0, v21), (2, v22), (4, (lookQ L0 4)), (8, v20), (14, (lookQ L0 14))] H1 e2) (
 j19 [(0, (lookQ L0 0)), (2, (lookQ L0 2)), (4, (lookQ L0 4)), (8, v20), (14, (lookQ L0 14))] H1 e2)) fun j23 =>
 I.bin .geq 397 true a0 (.int .u64 4294967296) fun v24 =>
 I.cond v24 (
 I.bin .shr 397 true a0 (.int .u64 32) fun v25 =>
 j23 [(0, v25), (2, (.int .i64 32)), (4, v24), (8, .bad), (14, .bad)] H false) (
 j23 [(0, a0), (2, (.int .i64 0)), (4, v24), (8, .bad), (14, .bad)] H false)) (lenQ H)
  | _ => I.bot⟩
theorem ok304 (R : Type) : TxtOk Tryz.prog U ann 304 (r304 R) := fun I fuel KO KK args H k => match args with
  | [] => .inl rfl
  | [a0] => .inr (by kernel_rfl)
  | _ :: _ :: _ => .inl rfl
/-- silt/region.get -/
noncomputable def r307 (R : Type) : Bx (Txt R) := ⟨fun I fuel KO KK args H k => match args with
  | [a0] => (fun n0 =>
 I.ia 65 a0 (.int .i64 0) fun v0 =>
 I.load 5 H v0 fun v1 =>
 I.conv 5 22 v1 H fun v2 H3 =>
 I.ia 65 a0 (.int .i64 1) fun v4 =>
 I.load 5 H3 v4 fun v5 =>
 I.conv 5 22 v5 H3 fun v6 H7 =>
 I.bin .shl 22 true v6 (.int .u64 8) fun v8 =>
 I.bin .or 22 false v2 v8 fun v9 =>
 I.ia 65 a0 (.int .i64 2) fun v10 =>
 I.load 5 H7 v10 fun v11 =>
 I.conv 5 22 v11 H7 fun v12 H13 =>
 I.bin .shl 22 true v12 (.int .u64 16) fun v14 =>
 I.bin .or 22 false v9 v14 fun v15 =>
 I.ia 65 a0 (.int .i64 3) fun v16 =>
 I.load 5 H13 v16 fun v17 =>
 I.conv 5 22 v17 H13 fun v18 H19 =>
 I.bin .shl 22 true v18 (.int .u64 24) fun v20 =>
 I.bin .or 22 false v15 v20 fun v21 =>
 I.fin n0 H19 false [v21] k) (lenQ H)
  | _ => I.bot⟩
theorem ok307 (R : Type) : TxtOk Tryz.prog U ann 307 (r307 R) := fun I fuel KO KK args H k => match args with
  | [] => .inl rfl
  | [a0] => .inr (by kernel_rfl)
  | _ :: _ :: _ => .inl rfl
/-- silt/group.Read -/
noncomputable def r309 (R : Type) : Bx (Txt R) := ⟨fun I fuel KO KK args H k => match args with
  | [a0, a1] => (fun n0 =>
 I.alloc 445 H fun v0 H1 =>
 I.alloc 445 H1 fun v2 H3 =>
 I.head n0 211 [(0, a0), (1, a1), (4, v0), (5, (.bool false)), (6, v2), (7, (.bool true)), (8, .bad), (9, .bad), (10, .bad), (11, .bad), (12, .bad), (13, .bad), (14, .bad), (15, .bad), (16, .bad), (17, .bad), (47, .bad), (76, .bad), (78, .bad), (79, .bad), (80, .bad), (81, .bad), (90, .bad)] H3 false fun L4 H5 => loopM I n0 211 (fun L6 H7 e8 k9 =>
 I.cond (lookQ L6 7) (
 I.fa 445 3 (lookQ L6 6) fun v10 =>
 I.load 3 H7 v10 fun v11 =>
 I.conv 3 22 v11 H7 fun v12 H13 =>
 I.bin .add 22 false (lookQ L6 0) v12 fun v14 =>
 I.fa 445 2 (lookQ L6 6) fun v15 =>
 I.load 3 H13 v15 fun v16 =>
 I.slice 141 H13 (lookQ L6 1) (some v16) none fun v17 =>
 KK 323 [v14, v17] H13 fun v18 H19 f20 => (fun e21 =>
 I.ext v18 0 fun v22 =>
 I.ext v18 1 fun v23 =>
 I.ext v18 2 fun v24 =>
 I.ext v18 3 fun v25 =>
 I.un .not v25 fun v26 =>
 I.gd v26 false (fun K27 => K27 v22 H19 e21) H19 e21 fun v28 H29 e30 =>
 I.gd v26 false (fun K31 => I.len v28 fun v35 =>
 K31 v35 H29 e30) H29 e30 fun v32 H33 e34 =>
 I.gd v26 false (fun K36 => I.fa 445 0 (lookQ L6 6) fun v40 =>
 K36 v40 H33 e34) H33 e34 fun v37 H38 e39 =>
 I.gd v26 false (fun K41 => I.load 162 H38 v37 fun v45 =>
 K41 v45 H38 e39) H38 e39 fun v42 H43 e44 =>
 I.gd v26 false (fun K46 => I.len v42 fun v50 =>
 K46 v50 H43 e44) H43 e44 fun v47 H48 e49 =>
 I.gd v26 false (fun K51 => I.bin .sub 3 true (.int .i64 64) v47 fun v55 =>
 K51 v55 H48 e49) H48 e49 fun v52 H53 e54 =>
 I.gd v26 false (fun K56 => I.bin .gtr 3 false v32 v52 fun v60 =>
 K56 v60 H53 e54) H53 e54 fun v57 H58 e59 =>
 I.pick v26 (.bool true) v57 fun v61 =>
 I.cond v61 (
 I.build 445 [] fun v62 =>
 I.store n0 445 H58 (lookQ L6 4) v62 fun H63 f64 => (fun e65 =>
 k9 .ret [(0, (lookQ L6 0)), (1, (lookQ L6 1)), (4, (lookQ L6 4)), (5, (.bool false)), (6, (lookQ L6 6)), (7, (lookQ L6 7)), (8, v22), (9, v23), (10, v24), (11, v25), (12, (lookQ L6 12)), (13, (lookQ L6 13)), (14, (lookQ L6 14)), (15, (lookQ L6 15)), (16, (lookQ L6 16)), (17, (lookQ L6 7)), (47, v61), (76, (lookQ L6 76)), (78, (lookQ L6 78)), (79, (lookQ L6 79)), (80, (lookQ L6 80)), (81, (lookQ L6 81)), (90, (lookQ L6 90))] H63 e65) (escQ f64 e59)) (
 I.fa 445 0 (lookQ L6 6) fun v66 =>
 I.load 162 H58 v66 fun v67 =>
 I.blt true .append #[162, 162] n0 [v67, v22] H58 fun v68 H69 f70 => (fun e71 =>
 I.fa 445 0 (lookQ L6 6) fun v72 =>
 I.store n0 162 H69 v72 v68 fun H73 f74 => (fun e75 =>
 I.fa 445 2 (lookQ L6 6) fun v76 =>
 I.load 3 H73 v76 fun v77 =>
 I.bin .add 3 false v77 v23 fun v78 =>
 I.fa 445 2 (lookQ L6 6) fun v79 =>
 I.store n0 3 H73 v79 v78 fun H80 f81 => (fun e82 =>
 I.fa 445 3 (lookQ L6 6) fun v83 =>
 I.load 3 H80 v83 fun v84 =>
 I.bin .add 3 true v84 (.int .i64 1) fun v85 =>
 I.fa 445 3 (lookQ L6 6) fun v86 =>
 I.store n0 3 H80 v86 v85 fun H87 f88 => (fun e89 =>
 k9 .normal [(0, (lookQ L6 0)), (1, (lookQ L6 1)), (4, (lookQ L6 4)), (5, (lookQ L6 5)), (6, (lookQ L6 6)), (7, v24), (8, v22), (9, v23), (10, v24), (11, v25), (12, (lookQ L6 12)), (13, (lookQ L6 13)), (14, (lookQ L6 14)), (15, (lookQ L6 15)), (16, (lookQ L6 16)), (17, (lookQ L6 7)), (47, v61), (76, (lookQ L6 76)), (78, (lookQ L6 78)), (79, (lookQ L6 79)), (80, (lookQ L6 80)), (81, (lookQ L6 81)), (90, (lookQ L6 90))] H87 e89) (escQ f88 e82)) (escQ f81 e75)) (escQ f74 e71)) (escQ f70 e59))) (escQ f20 e8)) (
 k9 (.exit 0) [(0, (lookQ L6 0)), (1, (lookQ L6 1)), (4, (lookQ L6 4)), (5, (lookQ L6 5)), (6, (lookQ L6 6)), (7, (lookQ L6 7)), (8, (lookQ L6 8)), (9, (lookQ L6 9)), (10, (lookQ L6 10)), (11, (lookQ L6 11)), (12, (lookQ L6 12)), (13, (lookQ L6 13)), (14, (lookQ L6 14)), (15, (lookQ L6 15)), (16, (lookQ L6 16)), (17, (lookQ L6 7)), (47, (lookQ L6 47)), (76, (lookQ L6 76)), (78, (lookQ L6 78)), (79, (lookQ L6 79)), (80, (lookQ L6 80)), (81, (lookQ L6 81)), (90, (lookQ L6 90))] H7 e8)) fuel L4 H5 false (selK I.bot [(0, (fun L90 H91 e92 =>
 I.fa 445 0 (lookQ L90 6) fun v93 =>
 I.load 162 H91 v93 fun v94 =>
 KK 242 [(lookQ L90 0), v94] H91 fun v95 H96 f97 => (fun e98 =>
 I.ext v95 0 fun v99 =>
 I.ext v95 1 fun v100 =>
 I.ext v95 2 fun v101 =>
 I.bin .neq 33 true v101 (.int .i64 0) fun v102 =>
 I.gd v102 false (fun K103 => K103 v99 H96 e98) H96 e98 fun v104 H105 e106 =>
 I.gd v102 false (fun K107 => I.len v104 fun v111 =>
 K107 v111 H105 e106) H105 e106 fun v108 H109 e110 =>
 I.gd v102 false (fun K112 => I.fa 445 2 (lookQ L90 6) fun v116 =>
 K112 v116 H109 e110) H109 e110 fun v113 H114 e115 =>
 I.gd v102 false (fun K117 => I.load 3 H114 v113 fun v121 =>
 K117 v121 H114 e115) H114 e115 fun v118 H119 e120 =>
 I.gd v102 false (fun K122 => I.bin .neq 3 false v108 v118 fun v126 =>
 K122 v126 H119 e120) H119 e120 fun v123 H124 e125 =>
 I.pick v102 (.bool true) v123 fun v127 =>
 I.cond v127 (
 I.build 445 [] fun v128 =>
 I.store n0 445 H124 (lookQ L90 4) v128 fun H129 f130 => (fun e131 =>
 I.load 445 H129 (lookQ L90 4) fun v132 =>
 I.fin n0 H129 e131 [v132, (.bool false)] k) (escQ f130 e125)) (
 I.len v99 fun v133 =>
 I.head n0 2115620184325601055744082 [(0, (lookQ L90 0)), (1, (lookQ L90 1)), (4, (lookQ L90 4)), (5, (lookQ L90 5)), (6, (lookQ L90 6)), (7, (lookQ L90 7)), (8, (lookQ L90 8)), (9, (lookQ L90 9)), (10, (lookQ L90 10)), (11, (lookQ L90 11)), (12, v99), (13, v100), (14, v101), (15, (lookQ L90 15)), (16, (lookQ L90 16)), (17, (lookQ L90 17)), (47, (lookQ L90 47)), (76, v127), (78, v99), (79, v133), (80, (.int .i64 0)), (81, (lookQ L90 81)), (90, (lookQ L90 90))] H124 e125 fun L134 H135 => loopM I n0 2115620184325601055744082 (fun L136 H137 e138 k139 =>
 I.bin .lss 3 false (lookQ L136 80) (lookQ L136 79) fun v140 =>
 I.cond v140 (
 I.ia 141 (lookQ L136 78) (lookQ L136 80) fun v141 =>
 I.load 269 H137 v141 fun v142 =>
 I.alloc 269 H137 fun v143 H144 =>
 I.store n0 269 H144 v143 v142 fun H145 f146 => (fun e147 =>
 I.load 269 H145 v143 fun v148 =>
 I.ia 141 (lookQ L136 1) (lookQ L136 80) fun v149 =>
 I.load 269 H145 v149 fun v150 =>
 I.bin .neq 269 false v148 v150 fun v151 =>
 I.cond v151 (
 I.build 445 [] fun v152 =>
 I.store n0 445 H145 (lookQ L136 4) v152 fun H153 f154 => (fun e155 =>
 k139 .ret [(0, (lookQ L136 0)), (1, (lookQ L136 1)), (4, (lookQ L136 4)), (5, (.bool false)), (6, (lookQ L136 6)), (7, (lookQ L136 7)), (8, (lookQ L136 8)), (9, (lookQ L136 9)), (10, (lookQ L136 10)), (11, (lookQ L136 11)), (12, (lookQ L136 12)), (13, (lookQ L136 13)), (14, (lookQ L136 14)), (15, (lookQ L136 80)), (16, v143), (17, (lookQ L136 17)), (47, (lookQ L136 47)), (76, (lookQ L136 76)), (78, (lookQ L136 78)), (79, (lookQ L136 79)), (80, (lookQ L136 80)), (81, v140), (90, v151)] H153 e155) (escQ f154 e147)) (
 I.bin .add 3 true (lookQ L136 80) (.int .i64 1) fun v156 =>
 k139 .normal [(0, (lookQ L136 0)), (1, (lookQ L136 1)), (4, (lookQ L136 4)), (5, (lookQ L136 5)), (6, (lookQ L136 6)), (7, (lookQ L136 7)), (8, (lookQ L136 8)), (9, (lookQ L136 9)), (10, (lookQ L136 10)), (11, (lookQ L136 11)), (12, (lookQ L136 12)), (13, (lookQ L136 13)), (14, (lookQ L136 14)), (15, (lookQ L136 80)), (16, v143), (17, (lookQ L136 17)), (47, (lookQ L136 47)), (76, (lookQ L136 76)), (78, (lookQ L136 78)), (79, (lookQ L136 79)), (80, v156), (81, v140), (90, v151)] H145 e147)) (escQ f146 e138)) (
 k139 (.exit 2) [(0, (lookQ L136 0)), (1, (lookQ L136 1)), (4, (lookQ L136 4)), (5, (lookQ L136 5)), (6, (lookQ L136 6)), (7, (lookQ L136 7)), (8, (lookQ L136 8)), (9, (lookQ L136 9)), (10, (lookQ L136 10)), (11, (lookQ L136 11)), (12, (lookQ L136 12)), (13, (lookQ L136 13)), (14, (lookQ L136 14)), (15, (lookQ L136 15)), (16, (lookQ L136 16)), (17, (lookQ L136 17)), (47, (lookQ L136 47)), (76, (lookQ L136 76)), (78, (lookQ L136 78)), (79, (lookQ L136 79)), (80, (lookQ L136 80)), (81, v140), (90, (lookQ L136 90))] H137 e138)) fuel L134 H135 e125 (selK I.bot [(2, (fun L157 H158 e159 =>
 I.fa 445 1 (lookQ L157 6) fun v160 =>
 I.store n0 28 H158 v160 (lookQ L157 13) fun H161 f162 => (fun e163 =>
 I.load 445 H161 (lookQ L157 6) fun v164 =>
 I.store n0 445 H161 (lookQ L157 4) v164 fun H165 f166 => (fun e167 =>
 I.load 445 H165 (lookQ L157 4) fun v168 =>
 I.fin n0 H165 e167 [v168, (.bool true)] k) (escQ f166 e163)) (escQ f162 e159)))] (fun L169 H170 e171 =>
 I.load 445 H170 (lookQ L169 4) fun v172 =>
 I.fin n0 H170 e171 [v172, (lookQ L169 5)] k)))) (escQ f97 e92)))] (fun L173 H174 e175 =>
 I.load 445 H174 (lookQ L173 4) fun v176 =>
 I.fin n0 H174 e175 [v176, (lookQ L173 5)] k))) (lenQ H)
  | _ => I.bot⟩
theorem ok309 (R : Type) : TxtOk Tryz.prog U ann 309 (r309 R) := fun I fuel KO KK args H k => match args with
  | [] => .inl rfl
  | [_] => .inl rfl
  | [a0, a1] => .inr (by kernel_rfl)
  | _ :: _ :: _ :: _ => .inl rfl
/-- silt/group.items -/
noncomputable def r323 (R : Type) : Bx (Txt R) := ⟨fun I fuel KO KK args H k => match args with
  | [a0, a1] => (fun n0 =>
 I.len a1 fun v0 =>
 I.bin .eql 3 true v0 (.int .i64 0) fun v1 =>
 I.cond v1 (
 I.fin n0 H false [.nils, (.int .i64 0), (.bool false), (.bool false)] k) (
 I.ia 141 a1 (.int .i64 0) fun v2 =>
 I.load 269 H v2 fun v3 =>
 KK 174 [v3] H fun v4 H5 f6 => (fun e7 =>
 I.ext v4 0 fun v8 =>
 I.ext v4 1 fun v9 =>
 I.alloc 290 H5 fun v10 H11 =>
 I.store n0 290 H11 v10 v8 fun H12 f13 => (fun e14 =>
 I.bin .neq 33 true v9 (.int .i64 0) fun v15 =>
 I.gd v15 false (fun K16 => I.fa 290 0 v10 fun v20 =>
 K16 v20 H12 e14) H12 e14 fun v17 H18 e19 =>
 I.gd v15 false (fun K21 => I.load 22 H18 v17 fun v25 =>
 K21 v25 H18 e19) H18 e19 fun v22 H23 e24 =>
 I.gd v15 false (fun K26 => K26 a0 H23 e24) H23 e24 fun v27 H28 e29 =>
 I.gd v15 false (fun K30 => I.bin .neq 22 false v22 v27 fun v34 =>
 K30 v34 H28 e29) H28 e29 fun v31 H32 e33 =>
 I.pick v15 (.bool true) v31 fun v35 =>
 I.cond v35 (
 I.fin n0 H32 e33 [.nils, (.int .i64 0), (.bool false), (.bool false)] k) (
 I.fa 290 2 v10 fun v36 =>
 I.load 288 H32 v36 fun v37 =>
 I.len v37 fun v38 =>
 I.head n0 240518168883 [(0, a0), (1, a1), (4, .nils), (5, (.int .i64 1)), (6, (.bool false)), (7, (.bool false)), (8, v10), (9, v9), (11, .bad), (12, .bad), (13, .bad), (14, .bad), (15, .bad), (18, v1), (33, v35), (35, v37), (36, v38), (37, (.int .i64 0)), (38, .bad), (45, .bad), (49, .bad), (65, .bad)] H32 e33 fun L39 H40 => loopM I n0 240518168883 (fun L41 H42 e43 k44 =>
 I.bin .lss 3 false (lookQ L41 37) (lookQ L41 36) fun v45 =>
 I.cond v45 (
 I.ia 288 (lookQ L41 35) (lookQ L41 37) fun v46 =>
 I.load 156 H42 v46 fun v47 =>
 I.alloc 156 H42 fun v48 H49 =>
 I.store n0 156 H49 v48 v47 fun H50 f51 => (fun e52 =>
 I.load 156 H50 v48 fun v53 =>
 I.build 160 [(0, v53)] fun v54 =>
 I.alloc 160 H50 fun v55 H56 =>
 I.store n0 160 H56 v55 v54 fun H57 f58 => (fun e59 =>
 I.join (fun L60 H61 e62 =>
 I.load 160 H61 (lookQ L60 12) fun v63 =>
 I.bslice 162 1 [(0, v63)] H61 fun v64 H65 =>
 I.blt true .append #[162, 162] n0 [(lookQ L60 4), v64] H65 fun v66 H67 f68 => (fun e69 =>
 I.bin .add 3 true (lookQ L60 37) (.int .i64 1) fun v70 =>
 k44 .normal [(0, (lookQ L60 0)), (1, (lookQ L60 1)), (4, v66), (5, (lookQ L60 5)), (6, (lookQ L60 6)), (7, (lookQ L60 7)), (8, (lookQ L60 8)), (9, (lookQ L60 9)), (11, (lookQ L60 11)), (12, (lookQ L60 12)), (13, (lookQ L60 13)), (14, (lookQ L60 14)), (15, (lookQ L60 15)), (18, (lookQ L60 18)), (33, (lookQ L60 33)), (35, (lookQ L60 35)), (36, (lookQ L60 36)), (37, v70), (38, (lookQ L60 38)), (45, (lookQ L60 45)), (49, (lookQ L60 49)), (65, (lookQ L60 65))] H67 e69) (escQ f68 e62)) fun j71 =>
 I.fa 156 0 v48 fun v72 =>
 I.load 3 H57 v72 fun v73 =>
 KK 313 [v73] H57 fun v74 H75 f76 => (fun e77 =>
 I.cond v74 (
 I.len (lookQ L41 1) fun v78 =>
 I.bin .geq 3 false (lookQ L41 5) v78 fun v79 =>
 I.cond v79 (
 k44 .ret [(0, (lookQ L41 0)), (1, (lookQ L41 1)), (4, .nils), (5, (.int .i64 0)), (6, (.bool false)), (7, (.bool false)), (8, (lookQ L41 8)), (9, (lookQ L41 9)), (11, v48), (12, v55), (13, (lookQ L41 13)), (14, (lookQ L41 14)), (15, (lookQ L41 15)), (18, (lookQ L41 18)), (33, (lookQ L41 33)), (35, (lookQ L41 35)), (36, (lookQ L41 36)), (37, (lookQ L41 37)), (38, v45), (45, v74), (49, v79), (65, (lookQ L41 65))] H75 e77) (
 I.ia 141 (lookQ L41 1) (lookQ L41 5) fun v80 =>
 I.load 269 H75 v80 fun v81 =>
 KK 173 [v81] H75 fun v82 H83 f84 => (fun e85 =>
 I.ext v82 0 fun v86 =>
 I.ext v82 1 fun v87 =>
 I.ext v82 2 fun v88 =>
 I.alloc 158 H83 fun v89 H90 =>
 I.store n0 158 H90 v89 v86 fun H91 f92 => (fun e93 =>
 I.bin .neq 33 true v88 (.int .i64 0) fun v94 =>
 I.gd v94 false (fun K95 => K95 v87 H91 e93) H91 e93 fun v96 H97 e98 =>
 I.gd v94 false (fun K99 => K99 (lookQ L41 0) H97 e98) H97 e98 fun v100 H101 e102 =>
 I.gd v94 false (fun K103 => I.bin .neq 22 false v96 v100 fun v107 =>
 K103 v107 H101 e102) H101 e102 fun v104 H105 e106 =>
 I.pick v94 (.bool true) v104 fun v108 =>
 I.cond v108 (
 k44 .ret [(0, (lookQ L41 0)), (1, (lookQ L41 1)), (4, .nils), (5, (.int .i64 0)), (6, (.bool false)), (7, (.bool false)), (8, (lookQ L41 8)), (9, (lookQ L41 9)), (11, v48), (12, v55), (13, v89), (14, v87), (15, v88), (18, (lookQ L41 18)), (33, (lookQ L41 33)), (35, (lookQ L41 35)), (36, (lookQ L41 36)), (37, (lookQ L41 37)), (38, v45), (45, v74), (49, v79), (65, v108)] H105 e106) (
 I.load 158 H105 v89 fun v109 =>
 I.fa 160 1 v55 fun v110 =>
 I.store n0 158 H105 v110 v109 fun H111 f112 => (fun e113 =>
 I.bin .add 3 true (lookQ L41 5) (.int .i64 1) fun v114 =>
 j71 [(0, (lookQ L41 0)), (1, (lookQ L41 1)), (4, (lookQ L41 4)), (5, v114), (6, (lookQ L41 6)), (7, (lookQ L41 7)), (8, (lookQ L41 8)), (9, (lookQ L41 9)), (11, v48), (12, v55), (13, v89), (14, v87), (15, v88), (18, (lookQ L41 18)), (33, (lookQ L41 33)), (35, (lookQ L41 35)), (36, (lookQ L41 36)), (37, (lookQ L41 37)), (38, v45), (45, v74), (49, v79), (65, v108)] H111 e113) (escQ f112 e106))) (escQ f92 e85)) (escQ f84 e77))) (
 j71 [(0, (lookQ L41 0)), (1, (lookQ L41 1)), (4, (lookQ L41 4)), (5, (lookQ L41 5)), (6, (lookQ L41 6)), (7, (lookQ L41 7)), (8, (lookQ L41 8)), (9, (lookQ L41 9)), (11, v48), (12, v55), (13, (lookQ L41 13)), (14, (lookQ L41 14)), (15, (lookQ L41 15)), (18, (lookQ L41 18)), (33, (lookQ L41 33)), (35, (lookQ L41 35)), (36, (lookQ L41 36)), (37, (lookQ L41 37)), (38, v45), (45, v74), (49, (lookQ L41 49)), (65, (lookQ L41 65))] H75 e77)) (escQ f76 e59)) (escQ f58 e52)) (escQ f51 e43)) (
 k44 (.exit 0) [(0, (lookQ L41 0)), (1, (lookQ L41 1)), (4, (lookQ L41 4)), (5, (lookQ L41 5)), (6, (lookQ L41 6)), (7, (lookQ L41 7)), (8, (lookQ L41 8)), (9, (lookQ L41 9)), (11, (lookQ L41 11)), (12, (lookQ L41 12)), (13, (lookQ L41 13)), (14, (lookQ L41 14)), (15, (lookQ L41 15)), (18, (lookQ L41 18)), (33, (lookQ L41 33)), (35, (lookQ L41 35)), (36, (lookQ L41 36)), (37, (lookQ L41 37)), (38, v45), (45, (lookQ L41 45)), (49, (lookQ L41 49)), (65, (lookQ L41 65))] H42 e43)) fuel L39 H40 e33 (selK I.bot [(0, (fun L115 H116 e117 =>
 I.fa 290 1 (lookQ L115 8) fun v118 =>
 I.load 4 H116 v118 fun v119 =>
 I.fin n0 H116 e117 [(lookQ L115 4), (lookQ L115 5), v119, (.bool true)] k))] (fun L120 H121 e122 =>
 I.fin n0 H121 e122 [(lookQ L120 4), (lookQ L120 5), (lookQ L120 6), (lookQ L120 7)] k)))) (escQ f13 e7)) (escQ f6 false))) (lenQ H)
  | _ => I.bot⟩
theorem ok323 (R : Type) : TxtOk Tryz.prog U ann 323 (r323 R) := fun I fuel KO KK args H k => match args with
  | [] => .inl rfl
  | [_] => .inl rfl
  | [a0, a1] => .inr (by kernel_rfl)
  | _ :: _ :: _ :: _ => .inl rfl
/-- silt/group.empty -/
noncomputable def r324 (R : Type) : Bx (Txt R) := ⟨fun I fuel KO KK args H k => match args with
  | [a0] => (fun n0 =>
 I.box a0 H fun v0 H1 =>
 I.fa 158 0 v0 fun v2 =>
 I.load 3 H1 v2 fun v3 =>
 I.bin .eql 3 true v3 (.int .i64 0) fun v4 =>
 I.gd v4 true (fun K5 => I.fa 158 1 v0 fun v9 =>
 K5 v9 H1 false) H1 false fun v6 H7 e8 =>
 I.gd v4 true (fun K10 => I.load 3 H7 v6 fun v14 =>
 K10 v14 H7 e8) H7 e8 fun v11 H12 e13 =>
 I.gd v4 true (fun K15 => I.bin .eql 3 true v11 (.int .i64 0) fun v19 =>
 K15 v19 H12 e13) H12 e13 fun v16 H17 e18 =>
 I.pick v4 v16 (.bool false) fun v20 =>
 I.gd v20 true (fun K21 => I.fa 158 2 v0 fun v25 =>
 K21 v25 H17 e18) H17 e18 fun v22 H23 e24 =>
 I.gd v20 true (fun K26 => I.load 40 H23 v22 fun v30 =>
 K26 v30 H23 e24) H23 e24 fun v27 H28 e29 =>
 I.gd v20 true (fun K31 => I.build 40 [] fun v35 =>
 K31 v35 H28 e29) H28 e29 fun v32 H33 e34 =>
 I.gd v20 true (fun K36 => I.bin .eql 40 false v27 v32 fun v40 =>
 K36 v40 H33 e34) H33 e34 fun v37 H38 e39 =>
 I.pick v20 v37 (.bool false) fun v41 =>
 I.gd v41 true (fun K42 => I.fa 158 3 v0 fun v46 =>
 K42 v46 H38 e39) H38 e39 fun v43 H44 e45 =>
 I.gd v41 true (fun K47 => I.load 3 H44 v43 fun v51 =>
 K47 v51 H44 e45) H44 e45 fun v48 H49 e50 =>
 I.gd v41 true (fun K52 => I.bin .eql 3 true v48 (.int .i64 0) fun v56 =>
 K52 v56 H49 e50) H49 e50 fun v53 H54 e55 =>
 I.pick v41 v53 (.bool false) fun v57 =>
 I.gd v57 true (fun K58 => I.fa 158 4 v0 fun v62 =>
 K58 v62 H54 e55) H54 e55 fun v59 H60 e61 =>
 I.gd v57 true (fun K63 => I.load 65 H60 v59 fun v67 =>
 K63 v67 H60 e61) H60 e61 fun v64 H65 e66 =>
 I.gd v57 true (fun K68 => I.len v64 fun v72 =>
 K68 v72 H65 e66) H65 e66 fun v69 H70 e71 =>
 I.gd v57 true (fun K73 => I.bin .eql 3 true v69 (.int .i64 0) fun v77 =>
 K73 v77 H70 e71) H70 e71 fun v74 H75 e76 =>
 I.pick v57 v74 (.bool false) fun v78 =>
 I.gd v78 true (fun K79 => I.fa 158 5 v0 fun v83 =>
 K79 v83 H75 e76) H75 e76 fun v80 H81 e82 =>
 I.gd v78 true (fun K84 => I.load 3 H81 v80 fun v88 =>
 K84 v88 H81 e82) H81 e82 fun v85 H86 e87 =>
 I.gd v78 true (fun K89 => I.bin .eql 3 true v85 (.int .i64 0) fun v93 =>
 K89 v93 H86 e87) H86 e87 fun v90 H91 e92 =>
 I.pick v78 v90 (.bool false) fun v94 =>
 I.gd v94 true (fun K95 => I.fa 158 6 v0 fun v99 =>
 K95 v99 H91 e92) H91 e92 fun v96 H97 e98 =>
 I.gd v94 true (fun K100 => I.load 25 H97 v96 fun v104 =>
 K100 v104 H97 e98) H97 e98 fun v101 H102 e103 =>
 I.gd v94 true (fun K105 => I.build 25 [] fun v109 =>
 K105 v109 H102 e103) H102 e103 fun v106 H107 e108 =>
 I.gd v94 true (fun K110 => I.bin .eql 25 false v101 v106 fun v114 =>
 K110 v114 H107 e108) H107 e108 fun v111 H112 e113 =>
 I.pick v94 v111 (.bool false) fun v115 =>
 I.fin n0 H112 e113 [v115] k) (lenQ H)
  | _ => I.bot⟩
theorem ok324 (R : Type) : TxtOk Tryz.prog U ann 324 (r324 R) := fun I fuel KO KK args H k => match args with
  | [] => .inl rfl
  | [a0] => .inr (by kernel_rfl)
  | _ :: _ :: _ => .inl rfl
end Go.Proofs.YtkkbnchpedacjaaGreatDoor
