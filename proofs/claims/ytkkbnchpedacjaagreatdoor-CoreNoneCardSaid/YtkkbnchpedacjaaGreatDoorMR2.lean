/-
  The functions of the program, printed: part 2. Each is what the machine does on its text.
-/
import Derived.Test.YtkkbnchpedacjaaGreatDoorMBase
namespace Go.Proofs.YtkkbnchpedacjaaGreatDoor
open Go Go.X
set_option linter.unusedVariables false
/-- silt/group.Read -/
noncomputable def r309 (R : Type) : Bx (Txt R) := ⟨fun I fuel KO KK args H k => match args with
  | [a0, a1] => (fun n0 =>
 I.alloc 445 H fun v0 H1 =>
 I.alloc 445 H1 fun v2 H3 =>
 I.head n0 211 [(0, a0), (1, a1), (4, v0), (5, (.bool false)), (6, v2), (7, (.bool true)), (8, .bad), (9, .bad), (10, .bad), (11, .bad), (12, .bad), (13, .bad), (14, .bad), (15, .bad), (16, .bad), (17, .bad), (47, .bad), (76, .bad), (78, .bad), (79, .bad), (80, .bad), (81, .bad), (90, .bad)] H3 false fun L4 H5 => loopM I n0 211 (fun L6 H7 e8 k9 =>
 I.cond (lookQ L6 7) (
 I.fa 445 3 (lookQ L6 6) fun v10 =>
 I.load 3 H7 v10 fun v11 =>
 I.conv 3 22 v11 H7 fun v12 H13 =>
 I.bin .add 22 false (lookQ L6 0) v12 fun v14 =>
 I.fa 445 2 (lookQ L6 6) fun v15 =>
 I.load 3 H13 v15 fun v16 =>
 I.slice 141 H13 (lookQ L6 1) (some v16) none fun v17 =>
 KK 323 [v14, v17] H13 fun v18 H19 f20 => (fun e21 =>
 I.ext v18 0 fun v22 =>
 I.ext v18 1 fun v23 =>
 I.ext v18 2 fun v24 =>
 I.ext v18 3 fun v25 =>
 I.un .not v25 fun v26 =>
 I.gd v26 false (fun K27 => K27 v22 H19 e21) H19 e21 fun v28 H29 e30 =>
 I.gd v26 false (fun K31 => I.len v28 fun v35 =>
 K31 v35 H29 e30) H29 e30 fun v32 H33 e34 =>
 I.gd v26 false (fun K36 => I.fa 445 0 (lookQ L6 6) fun v40 =>
 K36 v40 H33 e34) H33 e34 fun v37 H38 e39 =>
 I.gd v26 false (fun K41 => I.load 162 H38 v37 fun v45 =>
 K41 v45 H38 e39) H38 e39 fun v42 H43 e44 =>
 I.gd v26 false (fun K46 => I.len v42 fun v50 =>
 K46 v50 H43 e44) H43 e44 fun v47 H48 e49 =>
 I.gd v26 false (fun K51 => I.bin .sub 3 true (.int .i64 64) v47 fun v55 =>
 K51 v55 H48 e49) H48 e49 fun v52 H53 e54 =>
 I.gd v26 false (fun K56 => I.bin .gtr 3 false v32 v52 fun v60 =>
 K56 v60 H53 e54) H53 e54 fun v57 H58 e59 =>
 I.pick v26 (.bool true) v57 fun v61 =>
 I.cond v61 (
 I.build 445 [] fun v62 =>
 I.store n0 445 H58 (lookQ L6 4) v62 fun H63 f64 => (fun e65 =>
 k9 .ret [(0, (lookQ L6 0)), (1, (lookQ L6 1)), (4, (lookQ L6 4)), (5, (.bool false)), (6, (lookQ L6 6)), (7, (lookQ L6 7)), (8, v22), (9, v23), (10, v24), (11, v25), (12, (lookQ L6 12)), (13, (lookQ L6 13)), (14, (lookQ L6 14)), (15, (lookQ L6 15)), (16, (lookQ L6 16)), (17, (lookQ L6 7)), (47, v61), (76, (lookQ L6 76)), (78, (lookQ L6 78)), (79, (lookQ L6 79)), (80, (lookQ L6 80)), (81, (lookQ L6 81)), (90, (lookQ L6 90))] H63 e65) (escQ f64 e59)) (
 I.fa 445 0 (lookQ L6 6) fun v66 =>
 I.load 162 H58 v66 fun v67 =>
 I.blt true .append #[162, 162] n0 [v67, v22] H58 fun v68 H69 f70 => (fun e71 =>
 I.fa 445 0 (lookQ L6 6) fun v72 =>
 I.store n0 162 H69 v72 v68 fun H73 f74 => (fun e75 =>
 I.fa 445 2 (lookQ L6 6) fun v76 =>
 I.load 3 H73 v76 fun v77 =>
 I.bin .add 3 false v77 v23 fun v78 =>
 I.fa 445 2 (lookQ L6 6) fun v79 =>
 I.store n0 3 H73 v79 v78 fun H80 f81 => (fun e82 =>
 I.fa 445 3 (lookQ L6 6) fun v83 =>
 I.load 3 H80 v83 fun v84 =>
 I.bin .add 3 true v84 (.int .i64 1) fun v85 =>
 I.fa 445 3 (lookQ L6 6) fun v86 =>
 I.store n0 3 H80 v86 v85 fun H87 f88 => (fun e89 =>
 k9 .normal [(0, (lookQ L6 0)), (1, (lookQ L6 1)), (4, (lookQ L6 4)), (5, (lookQ L6 5)), (6, (lookQ L6 6)), (7, v24), (8, v22), (9, v23), (10, v24), (11, v25), (12, (lookQ L6 12)), (13, (lookQ L6 13)), (14, (lookQ L6 14)), (15, (lookQ L6 15)), (16, (lookQ L6 16)), (17, (lookQ L6 7)), (47, v61), (76, (lookQ L6 76)), (78, (lookQ L6 78)), (79, (lookQ L6 79)), (80, (lookQ L6 80)), (81, (lookQ L6 81)), (90, (lookQ L6 90))] H87 e89) (escQ f88 e82)) (escQ f81 e75)) (escQ f74 e71)) (escQ f70 e59))) (escQ f20 e8)) (
 k9 (.exit 0) [(0, (lookQ L6 0)), (1, (lookQ L6 1)), (4, (lookQ L6 4)), (5, (lookQ L6 5)), (6, (lookQ L6 6)), (7, (lookQ L6 7)), (8, (lookQ L6 8)), (9, (lookQ L6 9)), (10, (lookQ L6 10)), (11, (lookQ L6 11)), (12, (lookQ L6 12)), (13, (lookQ L6 13)), (14, (lookQ L6 14)), (15, (lookQ L6 15)), (16, (lookQ L6 16)), (17, (lookQ L6 7)), (47, (lookQ L6 47)), (76, (lookQ L6 76)), (78, (lookQ L6 78)), (79, (lookQ L6 79)), (80, (lookQ L6 80)), (81, (lookQ L6 81)), (90, (lookQ L6 90))] H7 e8)) fuel L4 H5 false (selK I.bot [(0, (fun L90 H91 e92 =>
 I.fa 445 0 (lookQ L90 6) fun v93 =>
 I.load 162 H91 v93 fun v94 =>
 KK 242 [(lookQ L90 0), v94] H91 fun v95 H96 f97 => (fun e98 =>
 I.ext v95 0 fun v99 =>
 I.ext v95 1 fun v100 =>
 I.ext v95 2 fun v101 =>
 I.bin .neq 33 true v101 (.int .i64 0) fun v102 =>
 I.gd v102 false (fun K103 => K103 v99 H96 e98) H96 e98 fun v104 H105 e106 =>
 I.gd v102 false (fun K107 => I.len v104 fun v111 =>
 K107 v111 H105 e106) H105 e106 fun v108 H109 e110 =>
 I.gd v102 false (fun K112 => I.fa 445 2 (lookQ L90 6) fun v116 =>
 K112 v116 H109 e110) H109 e110 fun v113 H114 e115 =>
 I.gd v102 false (fun K117 => I.load 3 H114 v113 fun v121 =>
 K117 v121 H114 e115) H114 e115 fun v118 H119 e120 =>
 I.gd v102 false (fun K122 => I.bin .neq 3 false v108 v118 fun v126 =>
 K122 v126 H119 e120) H119 e120 fun v123 H124 e125 =>
 I.pick v102 (.bool true) v123 fun v127 =>
 I.cond v127 (
 I.build 445 [] fun v128 =>
 I.store n0 445 H124 (lookQ L90 4) v128 fun H129 f130 => (fun e131 =>
 I.load 445 H129 (lookQ L90 4) fun v132 =>
 I.fin n0 H129 e131 [v132, (.bool false)] k) (escQ f130 e125)) (
 I.len v99 fun v133 =>
 I.head n0 2115620184325601055744082 [(0, (lookQ L90 0)), (1, (lookQ L90 1)), (4, (lookQ L90 4)), (5, (lookQ L90 5)), (6, (lookQ L90 6)), (7, (lookQ L90 7)), (8, (lookQ L90 8)), (9, (lookQ L90 9)), (10, (lookQ L90 10)), (11, (lookQ L90 11)), (12, v99), (13, v100), (14, v101), (15, (lookQ L90 15)), (16, (lookQ L90 16)), (17, (lookQ L90 17)), (47, (lookQ L90 47)), (76, v127), (78, v99), (79, v133), (80, (.int .i64 0)), (81, (lookQ L90 81)), (90, (lookQ L90 90))] H124 e125 fun L134 H135 => loopM I n0 2115620184325601055744082 (fun L136 H137 e138 k139 =>
 I.bin .lss 3 false (lookQ L136 80) (lookQ L136 79) fun v140 =>
 I.cond v140 (
 I.ia 141 (lookQ L136 78) (lookQ L136 80) fun v141 =>
 I.load 269 H137 v141 fun v142 =>
 I.alloc 269 H137 fun v143 H144 =>
 I.store n0 269 H144 v143 v142 fun H145 f146 => (fun e147 =>
 I.load 269 H145 v143 fun v148 =>
 I.ia 141 (lookQ L136 1) (lookQ L136 80) fun v149 =>
 I.load 269 H145 v149 fun v150 =>
 I.bin .neq 269 false v148 v150 fun v151 =>
 I.cond v151 (
 I.build 445 [] fun v152 =>
 I.store n0 445 H145 (lookQ L136 4) v152 fun H153 f154 => (fun e155 =>
 k139 .ret [(0, (lookQ L136 0)), (1, (lookQ L136 1)), (4, (lookQ L136 4)), (5, (.bool false)), (6, (lookQ L136 6)), (7, (lookQ L136 7)), (8, (lookQ L136 8)), (9, (lookQ L136 9)), (10, (lookQ L136 10)), (11, (lookQ L136 11)), (12, (lookQ L136 12)), (13, (lookQ L136 13)), (14, (lookQ L136 14)), (15, (lookQ L136 80)), (16, v143), (17, (lookQ L136 17)), (47, (lookQ L136 47)), (76, (lookQ L136 76)), (78, (lookQ L136 78)), (79, (lookQ L136 79)), (80, (lookQ L136 80)), (81, v140), (90, v151)] H153 e155) (escQ f154 e147)) (
 I.bin .add 3 true (lookQ L136 80) (.int .i64 1) fun v156 =>
 k139 .normal [(0, (lookQ L136 0)), (1, (lookQ L136 1)), (4, (lookQ L136 4)), (5, (lookQ L136 5)), (6, (lookQ L136 6)), (7, (lookQ L136 7)), (8, (lookQ L136 8)), (9, (lookQ L136 9)), (10, (lookQ L136 10)), (11, (lookQ L136 11)), (12, (lookQ L136 12)), (13, (lookQ L136 13)), (14, (lookQ L136 14)), (15, (lookQ L136 80)), (16, v143), (17, (lookQ L136 17)), (47, (lookQ L136 47)), (76, (lookQ L136 76)), (78, (lookQ L136 78)), (79, (lookQ L136 79)), (80, v156), (81, v140), (90, v151)] H145 e147)) (escQ f146 e138)) (
 k139 (.exit 2) [(0, (lookQ L136 0)), (1, (lookQ L136 1)), (4, (lookQ L136 4)), (5, (lookQ L136 5)), (6, (lookQ L136 6)), (7, (lookQ L136 7)), (8, (lookQ L136 8)), (9, (lookQ L136 9)), (10, (lookQ L136 10)), (11, (lookQ L136 11)), (12, (lookQ L136 12)), (13, (lookQ L136 13)), (14, (lookQ L136 14)), (15, (lookQ L136 15)), (16, (lookQ L136 16)), (17, (lookQ L136 17)), (47, (lookQ L136 47)), (76, (lookQ L136 76)), (78, (lookQ L136 78)), (79, (lookQ L136 79)), (80, (lookQ L136 80)), (81, v140), (90, (lookQ L136 90))] H137 e138)) fuel L134 H135 e125 (selK I.bot [(2, (fun L157 H158 e159 =>
 I.fa 445 1 (lookQ L157 6) fun v160 =>
 I.store n0 28 H158 v160 (lookQ L157 13) fun H161 f162 => (fun e163 =>
 I.load 445 H161 (lookQ L157 6) fun v164 =>
 I.store n0 445 H161 (lookQ L157 4) v164 fun H165 f166 => (fun e167 =>
 I.load 445 H165 (lookQ L157 4) fun v168 =>
 I.fin n0 H165 e167 [v168, (.bool true)] k) (escQ f166 e163)) (escQ f162 e159)))] (fun L169 H170 e171 =>
 I.load 445 H170 (lookQ L169 4) fun v172 =>
 I.fin n0 H170 e171 [v172, (lookQ L169 5)] k)))) (escQ f97 e92)))] (fun L173 H174 e175 =>
 I.load 445 H174 (lookQ L173 4) fun v176 =>
 I.fin n0 H174 e175 [v176, (lookQ L173 5)] k))) (lenQ H)
  | _ => I.bot⟩
theorem ok309 (R : Type) : TxtOk Tryz.prog U ann 309 (r309 R) := fun I fuel KO KK args H k => match args with
  | [] => .inl rfl
  | [_] => .inl rfl
  | [a0, a1] => .inr (by kernel_rfl)
  | _ :: _ :: _ :: _ => .inl rfl
/-- silt/group.key -/
noncomputable def r310 (R : Type) : Bx (Txt R) := ⟨fun I fuel KO KK args H k => match args with
  | [a0] => (fun n0 =>
 I.box a0 H fun v0 H1 =>
 I.fa 156 0 v0 fun v2 =>
 I.load 3 H1 v2 fun v3 =>
 I.bin .eql 3 true v3 (.int .i64 3) fun v4 =>
 I.cond v4 (
 I.fa 156 1 v0 fun v5 =>
 I.load 3 H1 v5 fun v6 =>
 I.bin .add 3 true (.int .i64 64) v6 fun v7 =>
 I.fin n0 H1 false [v7] k) (
 I.fa 156 1 v0 fun v8 =>
 I.load 3 H1 v8 fun v9 =>
 I.fin n0 H1 false [v9] k)) (lenQ H)
  | _ => I.bot⟩
theorem ok310 (R : Type) : TxtOk Tryz.prog U ann 310 (r310 R) := fun I fuel KO KK args H k => match args with
  | [] => .inl rfl
  | [a0] => .inr (by kernel_rfl)
  | _ :: _ :: _ => .inl rfl
/-- silt/group.fits -/
noncomputable def r311 (R : Type) : Bx (Txt R) := ⟨fun I fuel KO KK args H k => match args with
  | [a0] => (fun n0 =>
 I.box a0 H fun v0 H1 =>
 I.fa 160 0 v0 fun v2 =>
 I.fa 156 0 v2 fun v3 =>
 I.load 3 H1 v3 fun v4 =>
 KK 313 [v4] H1 fun v5 H6 f7 => (fun e8 =>
 I.un .not v5 fun v9 =>
 I.cond v9 (
 I.fa 160 1 v0 fun v10 =>
 I.load 158 H6 v10 fun v11 =>
 KK 324 [v11] H6 fun v12 H13 f14 => (fun e15 =>
 I.fin n0 H13 e15 [v12] k) (escQ f14 e8)) (
 I.fa 160 1 v0 fun v16 =>
 I.fa 158 0 v16 fun v17 =>
 I.load 3 H6 v17 fun v18 =>
 I.fa 160 0 v0 fun v19 =>
 I.fa 156 0 v19 fun v20 =>
 I.load 3 H6 v20 fun v21 =>
 I.bin .eql 3 false v18 v21 fun v22 =>
 I.gd v22 true (fun K23 => I.fa 160 1 v0 fun v27 =>
 K23 v27 H6 e8) H6 e8 fun v24 H25 e26 =>
 I.gd v22 true (fun K28 => I.fa 158 1 v24 fun v32 =>
 K28 v32 H25 e26) H25 e26 fun v29 H30 e31 =>
 I.gd v22 true (fun K33 => I.load 3 H30 v29 fun v37 =>
 K33 v37 H30 e31) H30 e31 fun v34 H35 e36 =>
 I.gd v22 true (fun K38 => I.fa 160 0 v0 fun v42 =>
 K38 v42 H35 e36) H35 e36 fun v39 H40 e41 =>
 I.gd v22 true (fun K43 => I.fa 156 1 v39 fun v47 =>
 K43 v47 H40 e41) H40 e41 fun v44 H45 e46 =>
 I.gd v22 true (fun K48 => I.load 3 H45 v44 fun v52 =>
 K48 v52 H45 e46) H45 e46 fun v49 H50 e51 =>
 I.gd v22 true (fun K53 => I.bin .eql 3 false v34 v49 fun v57 =>
 K53 v57 H50 e51) H50 e51 fun v54 H55 e56 =>
 I.pick v22 v54 (.bool false) fun v58 =>
 I.gd v58 true (fun K59 => I.fa 160 1 v0 fun v63 =>
 K59 v63 H55 e56) H55 e56 fun v60 H61 e62 =>
 I.gd v58 true (fun K64 => I.load 158 H61 v60 fun v68 =>
 K64 v68 H61 e62) H61 e62 fun v65 H66 e67 =>
 I.gd v58 true (fun K69 => KK 181 [v65] H66 fun v73 H74 f75 => (fun e76 =>
 K69 v73 H74 e76) (escQ f75 e67)) H66 e67 fun v70 H71 e72 =>
 I.pick v58 v70 (.bool false) fun v77 =>
 I.fin n0 H71 e72 [v77] k)) (escQ f7 false)) (lenQ H)
  | _ => I.bot⟩
theorem ok311 (R : Type) : TxtOk Tryz.prog U ann 311 (r311 R) := fun I fuel KO KK args H k => match args with
  | [] => .inl rfl
  | [a0] => .inr (by kernel_rfl)
  | _ :: _ :: _ => .inl rfl
/-- silt/group.blocked -/
noncomputable def r313 (R : Type) : Bx (Txt R) := ⟨fun I fuel KO KK args H k => match args with
  | [a0] => (fun n0 =>
 I.join (fun L0 H1 e2 =>
 I.fin n0 H1 e2 [(.bool false)] k) fun j3 =>
 I.join (fun L4 H5 e6 =>
 I.fin n0 H5 e6 [(.bool true)] k) fun j7 =>
 I.join (fun L8 H9 e10 =>
 j7 [(0, (lookQ L8 0)), (2, (lookQ L8 2)), (3, (lookQ L8 3)), (4, (lookQ L8 4)), (6, (lookQ L8 6)), (8, (lookQ L8 8))] H9 e10) fun j11 =>
 I.bin .eql 3 true a0 (.int .i64 1) fun v12 =>
 I.cond v12 (
 j11 [(0, a0), (2, (.bool false)), (3, a0), (4, v12), (6, .bad), (8, .bad)] H false) (
 I.bin .eql 3 true a0 (.int .i64 2) fun v13 =>
 I.cond v13 (
 j11 [(0, a0), (2, (.bool false)), (3, a0), (4, v12), (6, v13), (8, .bad)] H false) (
 I.bin .eql 3 true a0 (.int .i64 3) fun v14 =>
 I.cond v14 (
 j7 [(0, a0), (2, (.bool false)), (3, a0), (4, v12), (6, v13), (8, v14)] H false) (
 j3 [(0, a0), (2, (.bool false)), (3, a0), (4, v12), (6, v13), (8, v14)] H false)))) (lenQ H)
  | _ => I.bot⟩
theorem ok313 (R : Type) : TxtOk Tryz.prog U ann 313 (r313 R) := fun I fuel KO KK args H k => match args with
  | [] => .inl rfl
  | [a0] => .inr (by kernel_rfl)
  | _ :: _ :: _ => .inl rfl
/-- silt/group.items -/
noncomputable def r323 (R : Type) : Bx (Txt R) := ⟨fun I fuel KO KK args H k => match args with
  | [a0, a1] => (fun n0 =>
 I.len a1 fun v0 =>
 I.bin .eql 3 true v0 (.int .i64 0) fun v1 =>
 I.cond v1 (
 I.fin n0 H false [.nils, (.int .i64 0), (.bool false), (.bool false)] k) (
 I.ia 141 a1 (.int .i64 0) fun v2 =>
 I.load 269 H v2 fun v3 =>
 KK 174 [v3] H fun v4 H5 f6 => (fun e7 =>
 I.ext v4 0 fun v8 =>
 I.ext v4 1 fun v9 =>
 I.alloc 290 H5 fun v10 H11 =>
 I.store n0 290 H11 v10 v8 fun H12 f13 => (fun e14 =>
 I.bin .neq 33 true v9 (.int .i64 0) fun v15 =>
 I.gd v15 false (fun K16 => I.fa 290 0 v10 fun v20 =>
 K16 v20 H12 e14) H12 e14 fun v17 H18 e19 =>
 I.gd v15 false (fun K21 => I.load 22 H18 v17 fun v25 =>
 K21 v25 H18 e19) H18 e19 fun v22 H23 e24 =>
 I.gd v15 false (fun K26 => K26 a0 H23 e24) H23 e24 fun v27 H28 e29 =>
 I.gd v15 false (fun K30 => I.bin .neq 22 false v22 v27 fun v34 =>
 K30 v34 H28 e29) H28 e29 fun v31 H32 e33 =>
 I.pick v15 (.bool true) v31 fun v35 =>
 I.cond v35 (
 I.fin n0 H32 e33 [.nils, (.int .i64 0), (.bool false), (.bool false)] k) (
 I.fa 290 2 v10 fun v36 =>
 I.load 288 H32 v36 fun v37 =>
 I.len v37 fun v38 =>
 I.head n0 240518168883 [(0, a0), (1, a1), (4, .nils), (5, (.int .i64 1)), (6, (.bool false)), (7, (.bool false)), (8, v10), (9, v9), (11, .bad), (12, .bad), (13, .bad), (14, .bad), (15, .bad), (18, v1), (33, v35), (35, v37), (36, v38), (37, (.int .i64 0)), (38, .bad), (45, .bad), (49, .bad), (65, .bad)] H32 e33 fun L39 H40 => loopM I n0 240518168883 (fun L41 H42 e43 k44 =>
 I.bin .lss 3 false (lookQ L41 37) (lookQ L41 36) fun v45 =>
 I.cond v45 (
 I.ia 288 (lookQ L41 35) (lookQ L41 37) fun v46 =>
 I.load 156 H42 v46 fun v47 =>
 I.alloc 156 H42 fun v48 H49 =>
 I.store n0 156 H49 v48 v47 fun H50 f51 => (fun e52 =>
 I.load 156 H50 v48 fun v53 =>
 I.build 160 [(0, v53)] fun v54 =>
 I.alloc 160 H50 fun v55 H56 =>
 I.store n0 160 H56 v55 v54 fun H57 f58 => (fun e59 =>
 I.join (fun L60 H61 e62 =>
 I.load 160 H61 (lookQ L60 12) fun v63 =>
 I.bslice 162 1 [(0, v63)] H61 fun v64 H65 =>
 I.blt true .append #[162, 162] n0 [(lookQ L60 4), v64] H65 fun v66 H67 f68 => (fun e69 =>
 I.bin .add 3 true (lookQ L60 37) (.int .i64 1) fun v70 =>
 k44 .normal [(0, (lookQ L60 0)), (1, (lookQ L60 1)), (4, v66), (5, (lookQ L60 5)), (6, (lookQ L60 6)), (7, (lookQ L60 7)), (8, (lookQ L60 8)), (9, (lookQ L60 9)), (11, (lookQ L60 11)), (12, (lookQ L60 12)), (13, (lookQ L60 13)), (14, (lookQ L60 14)), (15, (lookQ L60 15)), (18, (lookQ L60 18)), (33, (lookQ L60 33)), (35, (lookQ L60 35)), (36, (lookQ L60 36)), (37, v70), (38, (lookQ L60 38)), (45, (lookQ L60 45)), (49, (lookQ L60 49)), (65, (lookQ L60 65))] H67 e69) (escQ f68 e62)) fun j71 =>
 I.fa 156 0 v48 fun v72 =>
 I.load 3 H57 v72 fun v73 =>
 KK 313 [v73] H57 fun v74 H75 f76 => (fun e77 =>
 I.cond v74 (
 I.len (lookQ L41 1) fun v78 =>
 I.bin .geq 3 false (lookQ L41 5) v78 fun v79 =>
 I.cond v79 (
 k44 .ret [(0, (lookQ L41 0)), (1, (lookQ L41 1)), (4, .nils), (5, (.int .i64 0)), (6, (.bool false)), (7, (.bool false)), (8, (lookQ L41 8)), (9, (lookQ L41 9)), (11, v48), (12, v55), (13, (lookQ L41 13)), (14, (lookQ L41 14)), (15, (lookQ L41 15)), (18, (lookQ L41 18)), (33, (lookQ L41 33)), (35, (lookQ L41 35)), (36, (lookQ L41 36)), (37, (lookQ L41 37)), (38, v45), (45, v74), (49, v79), (65, (lookQ L41 65))] H75 e77) (
 I.ia 141 (lookQ L41 1) (lookQ L41 5) fun v80 =>
 I.load 269 H75 v80 fun v81 =>
 KK 173 [v81] H75 fun v82 H83 f84 => (fun e85 =>
 I.ext v82 0 fun v86 =>
 I.ext v82 1 fun v87 =>
 I.ext v82 2 fun v88 =>
 I.alloc 158 H83 fun v89 H90 =>
 I.store n0 158 H90 v89 v86 fun H91 f92 => (fun e93 =>
 I.bin .neq 33 true v88 (.int .i64 0) fun v94 =>
 I.gd v94 false (fun K95 => K95 v87 H91 e93) H91 e93 fun v96 H97 e98 =>
 I.gd v94 false (fun K99 => K99 (lookQ L41 0) H97 e98) H97 e98 fun v100 H101 e102 =>
 I.gd v94 false (fun K103 => I.bin .neq 22 false v96 v100 fun v107 =>
 K103 v107 H101 e102) H101 e102 fun v104 H105 e106 =>
 I.pick v94 (.bool true) v104 fun v108 =>
 I.cond v108 (
 k44 .ret [(0, (lookQ L41 0)), (1, (lookQ L41 1)), (4, .nils), (5, (.int .i64 0)), (6, (.bool false)), (7, (.bool false)), (8, (lookQ L41 8)), (9, (lookQ L41 9)), (11, v48), (12, v55), (13, v89), (14, v87), (15, v88), (18, (lookQ L41 18)), (33, (lookQ L41 33)), (35, (lookQ L41 35)), (36, (lookQ L41 36)), (37, (lookQ L41 37)), (38, v45), (45, v74), (49, v79), (65, v108)] H105 e106) (
 I.load 158 H105 v89 fun v109 =>
 I.fa 160 1 v55 fun v110 =>
 I.store n0 158 H105 v110 v109 fun H111 f112 => (fun e113 =>
 I.bin .add 3 true (lookQ L41 5) (.int .i64 1) fun v114 =>
 j71 [(0, (lookQ L41 0)), (1, (lookQ L41 1)), (4, (lookQ L41 4)), (5, v114), (6, (lookQ L41 6)), (7, (lookQ L41 7)), (8, (lookQ L41 8)), (9, (lookQ L41 9)), (11, v48), (12, v55), (13, v89), (14, v87), (15, v88), (18, (lookQ L41 18)), (33, (lookQ L41 33)), (35, (lookQ L41 35)), (36, (lookQ L41 36)), (37, (lookQ L41 37)), (38, v45), (45, v74), (49, v79), (65, v108)] H111 e113) (escQ f112 e106))) (escQ f92 e85)) (escQ f84 e77))) (
 j71 [(0, (lookQ L41 0)), (1, (lookQ L41 1)), (4, (lookQ L41 4)), (5, (lookQ L41 5)), (6, (lookQ L41 6)), (7, (lookQ L41 7)), (8, (lookQ L41 8)), (9, (lookQ L41 9)), (11, v48), (12, v55), (13, (lookQ L41 13)), (14, (lookQ L41 14)), (15, (lookQ L41 15)), (18, (lookQ L41 18)), (33, (lookQ L41 33)), (35, (lookQ L41 35)), (36, (lookQ L41 36)), (37, (lookQ L41 37)), (38, v45), (45, v74), (49, (lookQ L41 49)), (65, (lookQ L41 65))] H75 e77)) (escQ f76 e59)) (escQ f58 e52)) (escQ f51 e43)) (
 k44 (.exit 0) [(0, (lookQ L41 0)), (1, (lookQ L41 1)), (4, (lookQ L41 4)), (5, (lookQ L41 5)), (6, (lookQ L41 6)), (7, (lookQ L41 7)), (8, (lookQ L41 8)), (9, (lookQ L41 9)), (11, (lookQ L41 11)), (12, (lookQ L41 12)), (13, (lookQ L41 13)), (14, (lookQ L41 14)), (15, (lookQ L41 15)), (18, (lookQ L41 18)), (33, (lookQ L41 33)), (35, (lookQ L41 35)), (36, (lookQ L41 36)), (37, (lookQ L41 37)), (38, v45), (45, (lookQ L41 45)), (49, (lookQ L41 49)), (65, (lookQ L41 65))] H42 e43)) fuel L39 H40 e33 (selK I.bot [(0, (fun L115 H116 e117 =>
 I.fa 290 1 (lookQ L115 8) fun v118 =>
 I.load 4 H116 v118 fun v119 =>
 I.fin n0 H116 e117 [(lookQ L115 4), (lookQ L115 5), v119, (.bool true)] k))] (fun L120 H121 e122 =>
 I.fin n0 H121 e122 [(lookQ L120 4), (lookQ L120 5), (lookQ L120 6), (lookQ L120 7)] k)))) (escQ f13 e7)) (escQ f6 false))) (lenQ H)
  | _ => I.bot⟩
theorem ok323 (R : Type) : TxtOk Tryz.prog U ann 323 (r323 R) := fun I fuel KO KK args H k => match args with
  | [] => .inl rfl
  | [_] => .inl rfl
  | [a0, a1] => .inr (by kernel_rfl)
  | _ :: _ :: _ :: _ => .inl rfl
/-- silt/group.empty -/
noncomputable def r324 (R : Type) : Bx (Txt R) := ⟨fun I fuel KO KK args H k => match args with
  | [a0] => (fun n0 =>
 I.box a0 H fun v0 H1 =>
 I.fa 158 0 v0 fun v2 =>
 I.load 3 H1 v2 fun v3 =>
 I.bin .eql 3 true v3 (.int .i64 0) fun v4 =>
 I.gd v4 true (fun K5 => I.fa 158 1 v0 fun v9 =>
 K5 v9 H1 false) H1 false fun v6 H7 e8 =>
 I.gd v4 true (fun K10 => I.load 3 H7 v6 fun v14 =>
 K10 v14 H7 e8) H7 e8 fun v11 H12 e13 =>
 I.gd v4 true (fun K15 => I.bin .eql 3 true v11 (.int .i64 0) fun v19 =>
 K15 v19 H12 e13) H12 e13 fun v16 H17 e18 =>
 I.pick v4 v16 (.bool false) fun v20 =>
 I.gd v20 true (fun K21 => I.fa 158 2 v0 fun v25 =>
 K21 v25 H17 e18) H17 e18 fun v22 H23 e24 =>
 I.gd v20 true (fun K26 => I.load 40 H23 v22 fun v30 =>
 K26 v30 H23 e24) H23 e24 fun v27 H28 e29 =>
 I.gd v20 true (fun K31 => I.build 40 [] fun v35 =>
 K31 v35 H28 e29) H28 e29 fun v32 H33 e34 =>
 I.gd v20 true (fun K36 => I.bin .eql 40 false v27 v32 fun v40 =>
 K36 v40 H33 e34) H33 e34 fun v37 H38 e39 =>
 I.pick v20 v37 (.bool false) fun v41 =>
 I.gd v41 true (fun K42 => I.fa 158 3 v0 fun v46 =>
 K42 v46 H38 e39) H38 e39 fun v43 H44 e45 =>
 I.gd v41 true (fun K47 => I.load 3 H44 v43 fun v51 =>
 K47 v51 H44 e45) H44 e45 fun v48 H49 e50 =>
 I.gd v41 true (fun K52 => I.bin .eql 3 true v48 (.int .i64 0) fun v56 =>
 K52 v56 H49 e50) H49 e50 fun v53 H54 e55 =>
 I.pick v41 v53 (.bool false) fun v57 =>
 I.gd v57 true (fun K58 => I.fa 158 4 v0 fun v62 =>
 K58 v62 H54 e55) H54 e55 fun v59 H60 e61 =>
 I.gd v57 true (fun K63 => I.load 65 H60 v59 fun v67 =>
 K63 v67 H60 e61) H60 e61 fun v64 H65 e66 =>
 I.gd v57 true (fun K68 => I.len v64 fun v72 =>
 K68 v72 H65 e66) H65 e66 fun v69 H70 e71 =>
 I.gd v57 true (fun K73 => I.bin .eql 3 true v69 (.int .i64 0) fun v77 =>
 K73 v77 H70 e71) H70 e71 fun v74 H75 e76 =>
 I.pick v57 v74 (.bool false) fun v78 =>
 I.gd v78 true (fun K79 => I.fa 158 5 v0 fun v83 =>
 K79 v83 H75 e76) H75 e76 fun v80 H81 e82 =>
 I.gd v78 true (fun K84 => I.load 3 H81 v80 fun v88 =>
 K84 v88 H81 e82) H81 e82 fun v85 H86 e87 =>
 I.gd v78 true (fun K89 => I.bin .eql 3 true v85 (.int .i64 0) fun v93 =>
 K89 v93 H86 e87) H86 e87 fun v90 H91 e92 =>
 I.pick v78 v90 (.bool false) fun v94 =>
 I.gd v94 true (fun K95 => I.fa 158 6 v0 fun v99 =>
 K95 v99 H91 e92) H91 e92 fun v96 H97 e98 =>
 I.gd v94 true (fun K100 => I.load 25 H97 v96 fun v104 =>
 K100 v104 H97 e98) H97 e98 fun v101 H102 e103 =>
 I.gd v94 true (fun K105 => I.build 25 [] fun v109 =>
 K105 v109 H102 e103) H102 e103 fun v106 H107 e108 =>
 I.gd v94 true (fun K110 => I.bin .eql 25 false v101 v106 fun v114 =>
 K110 v114 H107 e108) H107 e108 fun v111 H112 e113 =>
 I.pick v94 v111 (.bool false) fun v115 =>
 I.fin n0 H112 e113 [v115] k) (lenQ H)
  | _ => I.bot⟩
theorem ok324 (R : Type) : TxtOk Tryz.prog U ann 324 (r324 R) := fun I fuel KO KK args H k => match args with
  | [] => .inl rfl
  | [a0] => .inr (by kernel_rfl)
  | _ :: _ :: _ => .inl rfl
end Go.Proofs.YtkkbnchpedacjaaGreatDoor
