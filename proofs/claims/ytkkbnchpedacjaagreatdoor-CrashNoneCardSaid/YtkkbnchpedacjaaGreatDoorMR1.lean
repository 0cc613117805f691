/-
  The functions of the program, printed: part 1. Each is what the machine does on its text.
-/
import Derived.Test.YtkkbnchpedacjaaGreatDoorMBase
namespace Go.Proofs.YtkkbnchpedacjaaGreatDoor
open Go Go.X
set_option linter.unusedVariables false
/-- silt/recover.Chain -/
noncomputable def r12 (R : Type) : Bx (Txt R) := ⟨fun I fuel KO KK args H k => match args with
  | [a0, a1, a2, a3] => (fun n0 =>
 I.box a1 H fun v0 H1 =>
 I.alloc 42 H1 fun v2 H3 =>
 I.load 24 H3 v0 fun v4 =>
 KK 73 [v4] H3 fun v5 H6 f7 => (fun e8 =>
 I.un .not v5 fun v9 =>
 I.gd v9 false (fun K10 => K10 a2 H6 e8) H6 e8 fun v11 H12 e13 =>
 I.gd v9 false (fun K14 => I.bin .lss 3 true v11 (.int .i64 0) fun v18 =>
 K14 v18 H12 e13) H12 e13 fun v15 H16 e17 =>
 I.pick v9 (.bool true) v15 fun v19 =>
 I.gd v19 false (fun K20 => K20 a2 H16 e17) H16 e17 fun v21 H22 e23 =>
 I.gd v19 false (fun K24 => I.fa 24 0 v0 fun v28 =>
 K24 v28 H22 e23) H22 e23 fun v25 H26 e27 =>
 I.gd v19 false (fun K29 => I.load 3 H26 v25 fun v33 =>
 K29 v33 H26 e27) H26 e27 fun v30 H31 e32 =>
 I.gd v19 false (fun K34 => I.bin .geq 3 false v21 v30 fun v38 =>
 K34 v38 H31 e32) H31 e32 fun v35 H36 e37 =>
 I.pick v19 (.bool true) v35 fun v39 =>
 I.gd v39 false (fun K40 => K40 a0 H36 e37) H36 e37 fun v41 H42 e43 =>
 I.gd v39 false (fun K44 => I.load 24 H42 v0 fun v48 =>
 K44 v48 H42 e43) H42 e43 fun v45 H46 e47 =>
 I.gd v39 false (fun K49 => KK 74 [v41] H46 fun v53 H54 f55 => (fun e56 =>
 K49 v53 H54 e56) (escQ f55 e47)) H46 e47 fun v50 H51 e52 =>
 I.gd v39 false (fun K57 => KK 75 [v45] H51 fun v61 H62 f63 => (fun e64 =>
 K57 v61 H62 e64) (escQ f63 e52)) H51 e52 fun v58 H59 e60 =>
 I.gd v39 false (fun K65 => I.bin .lss 3 false v50 v58 fun v69 =>
 K65 v69 H59 e60) H59 e60 fun v66 H67 e68 =>
 I.pick v39 (.bool true) v66 fun v70 =>
 I.cg v39 false (fun r71 => I.load 24 H51 v0 fun v72 =>
 I.same v72 v45 (
 r71)) (
 I.cond v70 (
 I.build 42 [] fun v73 =>
 I.store n0 42 H67 v2 v73 fun H74 f75 => (fun e76 =>
 I.load 42 H74 v2 fun v77 =>
 I.fin n0 H74 e76 [v77, (.int .i64 1)] k) (escQ f75 e68)) (
 I.bin .eql 3 true a3 (.int .i64 0) fun v78 =>
 I.cond v78 (
 I.build 42 [] fun v79 =>
 I.store n0 42 H67 v2 v79 fun H80 f81 => (fun e82 =>
 I.load 42 H80 v2 fun v83 =>
 I.fin n0 H80 e82 [v83, (.int .i64 17)] k) (escQ f81 e68)) (
 I.load 24 H67 v0 fun v84 =>
 KK 76 [a0, v84, a2, a3] H67 fun v85 H86 f87 => (fun e88 =>
 I.ext v85 0 fun v89 =>
 I.ext v85 1 fun v90 =>
 I.alloc 42 H86 fun v91 H92 =>
 I.store n0 42 H92 v91 v89 fun H93 f94 => (fun e95 =>
 I.load 42 H93 v91 fun v96 =>
 KK 72 [v90] H93 fun v97 H98 f99 => (fun e100 =>
 I.store n0 42 H98 v2 v96 fun H101 f102 => (fun e103 =>
 I.load 42 H98 v91 fun v104 =>
 I.same v104 v96 (
 I.load 42 H101 v2 fun v105 =>
 I.fin n0 H101 e103 [v105, v97] k)) (escQ f102 e100)) (escQ f99 e95)) (escQ f94 e88)) (escQ f87 e68))))) (escQ f7 false)) (lenQ H)
  | _ => I.bot⟩
theorem ok12 (R : Type) : TxtOk Tryz.prog U ann 12 (r12 R) := fun I fuel KO KK args H k => match args with
  | [] => .inl rfl
  | [_] => .inl rfl
  | [_, _] => .inl rfl
  | [_, _, _] => .inl rfl
  | [a0, a1, a2, a3] => .inr (by kernel_rfl)
  | _ :: _ :: _ :: _ :: _ :: _ => .inl rfl
/-- silt/core.Open -/
noncomputable def r17 (R : Type) : Bx (Txt R) := ⟨fun I fuel KO KK args H k => match args with
  | [a0] => (fun n0 =>
 KK 10 [a0] H fun v0 H1 f2 => (fun e3 =>
 I.ext v0 0 fun v4 =>
 I.ext v0 1 fun v5 =>
 I.alloc 32 H1 fun v6 H7 =>
 I.store n0 32 H7 v6 v4 fun H8 f9 => (fun e10 =>
 I.bin .neq 33 true v5 (.int .i64 0) fun v11 =>
 I.cond v11 (
 I.fin n0 H8 e10 [.nilp, v5] k) (
 I.fa 32 3 v6 fun v12 =>
 I.load 30 H8 v12 fun v13 =>
 I.alloc 30 H8 fun v14 H15 =>
 I.store n0 30 H15 v14 v13 fun H16 f17 => (fun e18 =>
 I.fa 30 2 v14 fun v19 =>
 I.load 22 H16 v19 fun v20 =>
 I.fa 32 0 v6 fun v21 =>
 I.fa 27 1 v21 fun v22 =>
 I.load 24 H16 v22 fun v23 =>
 KK 88 [a0, v23] H16 fun v24 H25 f26 => (fun e27 =>
 I.blt true .max #[22, 22] n0 [v20, v24] H25 fun v28 H29 f30 => (fun e31 =>
 I.fa 30 2 v14 fun v32 =>
 I.store n0 22 H29 v32 v28 fun H33 f34 => (fun e35 =>
 I.load 22 H25 v19 fun v36 =>
 I.same v36 v20 (
 I.fa 30 2 v14 fun v37 =>
 I.load 22 H33 v37 fun v38 =>
 I.bin .geq 22 true v38 (.int .u32 2147483584) fun v39 =>
 I.gd v39 false (fun K40 => I.fa 32 0 v6 fun v44 =>
 K40 v44 H33 e35) H33 e35 fun v41 H42 e43 =>
 I.gd v39 false (fun K45 => I.fa 27 0 v41 fun v49 =>
 K45 v49 H42 e43) H42 e43 fun v46 H47 e48 =>
 I.gd v39 false (fun K50 => I.load 22 H47 v46 fun v54 =>
 K50 v54 H47 e48) H47 e48 fun v51 H52 e53 =>
 I.gd v39 false (fun K55 => I.bin .geq 22 true v51 (.int .u32 2147483648) fun v59 =>
 K55 v59 H52 e53) H52 e53 fun v56 H57 e58 =>
 I.pick v39 (.bool true) v56 fun v60 =>
 I.cond v60 (
 I.fin n0 H57 e58 [.nilp, (.int .i64 13)] k) (
 I.fa 30 2 v14 fun v61 =>
 I.load 22 H57 v61 fun v62 =>
 I.bin .add 22 true v62 (.int .u32 64) fun v63 =>
 I.fa 30 2 v14 fun v64 =>
 I.store n0 22 H57 v64 v63 fun H65 f66 => (fun e67 =>
 I.fa 32 0 v6 fun v68 =>
 I.fa 27 1 v68 fun v69 =>
 I.load 24 H65 v69 fun v70 =>
 I.load 30 H65 v14 fun v71 =>
 KK 78 [a0, v70, v71] H65 fun v72 H73 f74 => (fun e75 =>
 I.ext v72 0 fun v76 =>
 I.ext v72 1 fun v77 =>
 I.bin .neq 33 true v77 (.int .i64 0) fun v78 =>
 I.cond v78 (
 I.fin n0 H73 e75 [.nilp, (.int .i64 13)] k) (
 I.load 32 H73 v6 fun v79 =>
 I.fa 32 0 v6 fun v80 =>
 I.fa 27 1 v80 fun v81 =>
 I.fa 24 1 v81 fun v82 =>
 I.load 3 H73 v82 fun v83 =>
 I.mslice 58 v83 v83 H73 fun v84 H85 =>
 I.build 173 [(0, a0), (1, v79), (2, v76), (3, v84)] fun v86 =>
 I.box v86 H85 fun v87 H88 =>
 I.load 32 H85 v6 fun v89 =>
 I.same v89 v79 (
 KK 89 [v87, .nils] H88 fun v90 H91 f92 => (fun e93 =>
 I.bin .eql 33 true v90 (.int .i64 14) fun v94 =>
 I.gd v94 false (fun K95 => K95 v90 H91 e93) H91 e93 fun v96 H97 e98 =>
 I.gd v94 false (fun K99 => I.bin .eql 33 true v96 (.int .i64 0) fun v103 =>
 K99 v103 H97 e98) H97 e98 fun v100 H101 e102 =>
 I.gd v94 false (fun K104 => K104 v100 H101 e102) H101 e102 fun v105 H106 e107 =>
 I.gd v105 true (fun K108 => K108 v87 H106 e107) H106 e107 fun v109 H110 e111 =>
 I.gd v105 true (fun K112 => I.nil v109 fun v116 =>
 K112 v116 H110 e111) H110 e111 fun v113 H114 e115 =>
 I.gd v105 true (fun K117 => I.fa 173 2 v113 fun v121 =>
 K117 v121 H114 e115) H114 e115 fun v118 H119 e120 =>
 I.gd v105 true (fun K122 => I.load 150 H119 v118 fun v126 =>
 K122 v126 H119 e120) H119 e120 fun v123 H124 e125 =>
 I.gd v105 true (fun K127 => KK 90 [v123] H124 fun v131 H132 f133 => (fun e134 =>
 K127 v131 H132 e134) (escQ f133 e125)) H124 e125 fun v128 H129 e130 =>
 I.gd v105 true (fun K135 => I.fld 30 3 v128 fun v139 =>
 K135 v139 H129 e130) H129 e130 fun v136 H137 e138 =>
 I.gd v105 true (fun K140 => I.len v136 fun v144 =>
 K140 v144 H137 e138) H137 e138 fun v141 H142 e143 =>
 I.gd v105 true (fun K145 => I.bin .eql 3 true v141 (.int .i64 0) fun v149 =>
 K145 v149 H142 e143) H142 e143 fun v146 H147 e148 =>
 I.gd v94 false (fun K150 => I.pick v105 v146 (.bool false) fun v154 =>
 K150 v154 H147 e148) H147 e148 fun v151 H152 e153 =>
 I.pick v94 (.bool true) v151 fun v155 =>
 I.cond v155 (
 I.fin n0 H152 e153 [.nilp, (.int .i64 13)] k) (
 I.bin .neq 33 true v90 (.int .i64 0) fun v156 =>
 I.cond v156 (
 I.fin n0 H152 e153 [.nilp, v90] k) (
 I.nil v87 fun v157 =>
 I.fa 173 3 v157 fun v158 =>
 I.load 58 H152 v158 fun v159 =>
 I.len v159 fun v160 =>
 I.head n0 7427640235712281649394745600 [(0, a0), (2, .nilp), (3, (.int .i64 0)), (4, v6), (5, v77), (6, v14), (7, v76), (8, v87), (9, v90), (10, .bad), (17, v11), (38, v60), (53, v78), (66, v155), (83, v156), (91, v160), (92, (.int .i64 0)), (93, .bad)] H152 e153 fun L161 H162 => loopM I n0 7427640235712281649394745600 (fun L163 H164 e165 k166 =>
 I.bin .lss 3 false (lookQ L163 92) (lookQ L163 91) fun v167 =>
 I.cond v167 (
 I.nil (lookQ L163 8) fun v168 =>
 I.fa 173 3 v168 fun v169 =>
 I.load 58 H164 v169 fun v170 =>
 I.nil (lookQ L163 8) fun v171 =>
 I.fa 173 2 v171 fun v172 =>
 I.load 150 H164 v172 fun v173 =>
 KK 90 [v173] H164 fun v174 H175 f176 => (fun e177 =>
 I.fld 30 2 v174 fun v178 =>
 I.ia 58 v170 (lookQ L163 92) fun v179 =>
 I.store n0 22 H175 v179 v178 fun H180 f181 => (fun e182 =>
 I.load 58 H175 v169 fun v183 =>
 I.same v183 v170 (
 I.bin .add 3 true (lookQ L163 92) (.int .i64 1) fun v184 =>
 k166 .normal [(0, (lookQ L163 0)), (2, (lookQ L163 2)), (3, (lookQ L163 3)), (4, (lookQ L163 4)), (5, (lookQ L163 5)), (6, (lookQ L163 6)), (7, (lookQ L163 7)), (8, (lookQ L163 8)), (9, (lookQ L163 9)), (10, (lookQ L163 92)), (17, (lookQ L163 17)), (38, (lookQ L163 38)), (53, (lookQ L163 53)), (66, (lookQ L163 66)), (83, (lookQ L163 83)), (91, (lookQ L163 91)), (92, v184), (93, v167)] H180 e182)) (escQ f181 e177)) (escQ f176 e165)) (
 k166 (.exit 1) [(0, (lookQ L163 0)), (2, (lookQ L163 2)), (3, (lookQ L163 3)), (4, (lookQ L163 4)), (5, (lookQ L163 5)), (6, (lookQ L163 6)), (7, (lookQ L163 7)), (8, (lookQ L163 8)), (9, (lookQ L163 9)), (10, (lookQ L163 10)), (17, (lookQ L163 17)), (38, (lookQ L163 38)), (53, (lookQ L163 53)), (66, (lookQ L163 66)), (83, (lookQ L163 83)), (91, (lookQ L163 91)), (92, (lookQ L163 92)), (93, v167)] H164 e165)) fuel L161 H162 e153 (selK I.bot [(1, (fun L185 H186 e187 =>
 I.fin n0 H186 e187 [(lookQ L185 8), (.int .i64 0)] k))] (fun _ _ _ => I.bot))))) (escQ f92 e75)))) (escQ f74 e67)) (escQ f66 e58)))) (escQ f34 e31)) (escQ f30 e27)) (escQ f26 e18)) (escQ f17 e10))) (escQ f9 e3)) (escQ f2 false)) (lenQ H)
  | _ => I.bot⟩
theorem ok17 (R : Type) : TxtOk Tryz.prog U ann 17 (r17 R) := fun I fuel KO KK args H k => match args with
  | [] => .inl rfl
  | [a0] => .inr (by kernel_rfl)
  | _ :: _ :: _ => .inl rfl
/-- (*silt/core.Core).Commit -/
noncomputable def r19 (R : Type) : Bx (Txt R) := ⟨fun I fuel KO KK args H k => match args with
  | [a0, a1] => (fun n0 =>
 I.len a1 fun v0 =>
 I.head n0 1835043 [(0, a0), (1, a1), (4, (.int .i64 0)), (5, .nils), (7, .bad), (8, .bad), (9, .bad), (11, .bad), (13, .bad), (14, .bad), (15, .bad), (16, .bad), (17, .bad), (18, a1), (19, v0), (20, (.int .i64 0)), (21, .bad), (36, .bad), (38, .bad), (39, .bad), (40, .bad), (41, .bad), (56, .bad), (58, .bad), (59, .bad), (60, .bad), (61, .bad), (74, .bad), (76, .bad)] H false fun L1 H2 => loopM I n0 1835043 (fun L3 H4 e5 k6 =>
 I.bin .lss 3 false (lookQ L3 20) (lookQ L3 19) fun v7 =>
 I.cond v7 (
 I.ia 48 (lookQ L3 18) (lookQ L3 20) fun v8 =>
 I.load 167 H4 v8 fun v9 =>
 I.alloc 167 H4 fun v10 H11 =>
 I.store n0 167 H11 v10 v9 fun H12 f13 => (fun e14 =>
 I.fa 167 0 v10 fun v15 =>
 I.load 3 H12 v15 fun v16 =>
 I.bslice 28 1 [(0, v16)] H12 fun v17 H18 =>
 I.blt true .append #[28, 28] n0 [(lookQ L3 5), v17] H18 fun v19 H20 f21 => (fun e22 =>
 I.bin .add 3 true (lookQ L3 20) (.int .i64 1) fun v23 =>
 k6 .normal [(0, (lookQ L3 0)), (1, (lookQ L3 1)), (4, (lookQ L3 4)), (5, v19), (7, v10), (8, (lookQ L3 8)), (9, (lookQ L3 9)), (11, (lookQ L3 11)), (13, (lookQ L3 13)), (14, (lookQ L3 14)), (15, (lookQ L3 15)), (16, (lookQ L3 16)), (17, (lookQ L3 17)), (18, (lookQ L3 18)), (19, (lookQ L3 19)), (20, v23), (21, v7), (36, (lookQ L3 36)), (38, (lookQ L3 38)), (39, (lookQ L3 39)), (40, (lookQ L3 40)), (41, (lookQ L3 41)), (56, (lookQ L3 56)), (58, (lookQ L3 58)), (59, (lookQ L3 59)), (60, (lookQ L3 60)), (61, (lookQ L3 61)), (74, (lookQ L3 74)), (76, (lookQ L3 76))] H20 e22) (escQ f21 e14)) (escQ f13 e5)) (
 k6 (.exit 0) [(0, (lookQ L3 0)), (1, (lookQ L3 1)), (4, (lookQ L3 4)), (5, (lookQ L3 5)), (7, (lookQ L3 7)), (8, (lookQ L3 8)), (9, (lookQ L3 9)), (11, (lookQ L3 11)), (13, (lookQ L3 13)), (14, (lookQ L3 14)), (15, (lookQ L3 15)), (16, (lookQ L3 16)), (17, (lookQ L3 17)), (18, (lookQ L3 18)), (19, (lookQ L3 19)), (20, (lookQ L3 20)), (21, v7), (36, (lookQ L3 36)), (38, (lookQ L3 38)), (39, (lookQ L3 39)), (40, (lookQ L3 40)), (41, (lookQ L3 41)), (56, (lookQ L3 56)), (58, (lookQ L3 58)), (59, (lookQ L3 59)), (60, (lookQ L3 60)), (61, (lookQ L3 61)), (74, (lookQ L3 74)), (76, (lookQ L3 76))] H4 e5)) fuel L1 H2 false (selK I.bot [(0, (fun L24 H25 e26 =>
 KK 91 [(lookQ L24 0)] H25 fun v27 H28 f29 => (fun e30 =>
 KK 92 [(lookQ L24 0), (lookQ L24 5), v27] H28 fun v31 H32 f33 => (fun e34 =>
 I.bin .neq 33 true v31 (.int .i64 0) fun v35 =>
 I.cond v35 (
 I.fin n0 H32 e34 [v31] k) (
 I.len (lookQ L24 1) fun v36 =>
 I.head n0 1924145349123 [(0, (lookQ L24 0)), (1, (lookQ L24 1)), (4, (lookQ L24 4)), (5, (lookQ L24 5)), (7, (lookQ L24 7)), (8, v31), (9, .nils), (11, (lookQ L24 11)), (13, (lookQ L24 13)), (14, (lookQ L24 14)), (15, (lookQ L24 15)), (16, (lookQ L24 16)), (17, (lookQ L24 17)), (18, (lookQ L24 18)), (19, (lookQ L24 19)), (20, (lookQ L24 20)), (21, (lookQ L24 21)), (36, v35), (38, (lookQ L24 1)), (39, v36), (40, (.int .i64 0)), (41, (lookQ L24 41)), (56, (lookQ L24 56)), (58, (lookQ L24 58)), (59, (lookQ L24 59)), (60, (lookQ L24 60)), (61, (lookQ L24 61)), (74, (lookQ L24 74)), (76, (lookQ L24 76))] H32 e34 fun L37 H38 => loopM I n0 1924145349123 (fun L39 H40 e41 k42 =>
 I.bin .lss 3 false (lookQ L39 40) (lookQ L39 39) fun v43 =>
 I.cond v43 (
 I.ia 48 (lookQ L39 38) (lookQ L39 40) fun v44 =>
 I.load 167 H40 v44 fun v45 =>
 I.alloc 167 H40 fun v46 H47 =>
 I.store n0 167 H47 v46 v45 fun H48 f49 => (fun e50 =>
 I.fa 167 1 v46 fun v51 =>
 I.load 3 H48 v51 fun v52 =>
 I.bin .neq 3 true v52 (.int .i64 1) fun v53 =>
 I.gd v53 true (fun K54 => I.fa 167 1 v46 fun v58 =>
 K54 v58 H48 e50) H48 e50 fun v55 H56 e57 =>
 I.gd v53 true (fun K59 => I.load 3 H56 v55 fun v63 =>
 K59 v63 H56 e57) H56 e57 fun v60 H61 e62 =>
 I.gd v53 true (fun K64 => I.bin .neq 3 true v60 (.int .i64 4) fun v68 =>
 K64 v68 H61 e62) H61 e62 fun v65 H66 e67 =>
 I.pick v53 v65 (.bool false) fun v69 =>
 I.gd v69 true (fun K70 => I.fa 167 1 v46 fun v74 =>
 K70 v74 H66 e67) H66 e67 fun v71 H72 e73 =>
 I.gd v69 true (fun K75 => I.load 3 H72 v71 fun v79 =>
 K75 v79 H72 e73) H72 e73 fun v76 H77 e78 =>
 I.gd v69 true (fun K80 => I.bin .neq 3 true v76 (.int .i64 5) fun v84 =>
 K80 v84 H77 e78) H77 e78 fun v81 H82 e83 =>
 I.pick v69 v81 (.bool false) fun v85 =>
 I.cond v85 (
 k42 .ret [(0, (lookQ L39 0)), (1, (lookQ L39 1)), (4, (.int .i64 1)), (5, (lookQ L39 5)), (7, (lookQ L39 7)), (8, (lookQ L39 8)), (9, (lookQ L39 9)), (11, v46), (13, (lookQ L39 13)), (14, (lookQ L39 14)), (15, (lookQ L39 15)), (16, (lookQ L39 16)), (17, (lookQ L39 17)), (18, (lookQ L39 18)), (19, (lookQ L39 19)), (20, (lookQ L39 20)), (21, (lookQ L39 21)), (36, (lookQ L39 36)), (38, (lookQ L39 38)), (39, (lookQ L39 39)), (40, (lookQ L39 40)), (41, v43), (56, v85), (58, (lookQ L39 58)), (59, (lookQ L39 59)), (60, (lookQ L39 60)), (61, (lookQ L39 61)), (74, (lookQ L39 74)), (76, (lookQ L39 76))] H82 e83) (
 I.bin .add 3 true (lookQ L39 40) (.int .i64 1) fun v86 =>
 k42 .normal [(0, (lookQ L39 0)), (1, (lookQ L39 1)), (4, (lookQ L39 4)), (5, (lookQ L39 5)), (7, (lookQ L39 7)), (8, (lookQ L39 8)), (9, (lookQ L39 9)), (11, v46), (13, (lookQ L39 13)), (14, (lookQ L39 14)), (15, (lookQ L39 15)), (16, (lookQ L39 16)), (17, (lookQ L39 17)), (18, (lookQ L39 18)), (19, (lookQ L39 19)), (20, (lookQ L39 20)), (21, (lookQ L39 21)), (36, (lookQ L39 36)), (38, (lookQ L39 38)), (39, (lookQ L39 39)), (40, v86), (41, v43), (56, v85), (58, (lookQ L39 58)), (59, (lookQ L39 59)), (60, (lookQ L39 60)), (61, (lookQ L39 61)), (74, (lookQ L39 74)), (76, (lookQ L39 76))] H82 e83)) (escQ f49 e41)) (
 k42 (.exit 2) [(0, (lookQ L39 0)), (1, (lookQ L39 1)), (4, (lookQ L39 4)), (5, (lookQ L39 5)), (7, (lookQ L39 7)), (8, (lookQ L39 8)), (9, (lookQ L39 9)), (11, (lookQ L39 11)), (13, (lookQ L39 13)), (14, (lookQ L39 14)), (15, (lookQ L39 15)), (16, (lookQ L39 16)), (17, (lookQ L39 17)), (18, (lookQ L39 18)), (19, (lookQ L39 19)), (20, (lookQ L39 20)), (21, (lookQ L39 21)), (36, (lookQ L39 36)), (38, (lookQ L39 38)), (39, (lookQ L39 39)), (40, (lookQ L39 40)), (41, v43), (56, (lookQ L39 56)), (58, (lookQ L39 58)), (59, (lookQ L39 59)), (60, (lookQ L39 60)), (61, (lookQ L39 61)), (74, (lookQ L39 74)), (76, (lookQ L39 76))] H40 e41)) fuel L37 H38 e34 (selK I.bot [(2, (fun L87 H88 e89 =>
 I.len (lookQ L87 1) fun v90 =>
 I.head n0 2017612633061982721 [(0, (lookQ L87 0)), (1, (lookQ L87 1)), (4, (lookQ L87 4)), (5, (lookQ L87 5)), (7, (lookQ L87 7)), (8, (lookQ L87 8)), (9, (lookQ L87 9)), (11, (lookQ L87 11)), (13, (lookQ L87 13)), (14, (lookQ L87 14)), (15, (lookQ L87 15)), (16, (lookQ L87 16)), (17, (lookQ L87 17)), (18, (lookQ L87 18)), (19, (lookQ L87 19)), (20, (lookQ L87 20)), (21, (lookQ L87 21)), (36, (lookQ L87 36)), (38, (lookQ L87 38)), (39, (lookQ L87 39)), (40, (lookQ L87 40)), (41, (lookQ L87 41)), (56, (lookQ L87 56)), (58, (lookQ L87 1)), (59, v90), (60, (.int .i64 0)), (61, (lookQ L87 61)), (74, (lookQ L87 74)), (76, (lookQ L87 76))] H88 e89 fun L91 H92 => loopM I n0 2017612633061982721 (fun L93 H94 e95 k96 =>
 I.bin .lss 3 false (lookQ L93 60) (lookQ L93 59) fun v97 =>
 I.cond v97 (
 I.join (fun L98 H99 e100 =>
 I.bin .add 3 true (lookQ L98 60) (.int .i64 1) fun v101 =>
 k96 .normal [(0, (lookQ L98 0)), (1, (lookQ L98 1)), (4, (lookQ L98 4)), (5, (lookQ L98 5)), (7, (lookQ L98 7)), (8, (lookQ L98 8)), (9, (lookQ L98 9)), (11, (lookQ L98 11)), (13, (lookQ L98 13)), (14, (lookQ L98 14)), (15, (lookQ L98 15)), (16, (lookQ L98 16)), (17, (lookQ L98 17)), (18, (lookQ L98 18)), (19, (lookQ L98 19)), (20, (lookQ L98 20)), (21, (lookQ L98 21)), (36, (lookQ L98 36)), (38, (lookQ L98 38)), (39, (lookQ L98 39)), (40, (lookQ L98 40)), (41, (lookQ L98 41)), (56, (lookQ L98 56)), (58, (lookQ L98 58)), (59, (lookQ L98 59)), (60, v101), (61, (lookQ L98 61)), (74, (lookQ L98 74)), (76, (lookQ L98 76))] H99 e100) fun j102 =>
 I.ia 48 (lookQ L93 58) (lookQ L93 60) fun v103 =>
 I.load 167 H94 v103 fun v104 =>
 I.alloc 167 H94 fun v105 H106 =>
 I.store n0 167 H106 v105 v104 fun H107 f108 => (fun e109 =>
 I.load 167 H107 v105 fun v110 =>
 KK 93 [(lookQ L93 0), v110] H107 fun v111 H112 f113 => (fun e114 =>
 I.ext v111 0 fun v115 =>
 I.ext v111 1 fun v116 =>
 I.ext v111 2 fun v117 =>
 I.alloc 160 H112 fun v118 H119 =>
 I.store n0 160 H119 v118 v115 fun H120 f121 => (fun e122 =>
 KK 85 [v117] H120 fun v123 H124 f125 => (fun e126 =>
 I.bin .neq 33 true v123 (.int .i64 0) fun v127 =>
 I.cond v127 (
 k96 .ret [(0, (lookQ L93 0)), (1, (lookQ L93 1)), (4, v123), (5, (lookQ L93 5)), (7, (lookQ L93 7)), (8, (lookQ L93 8)), (9, (lookQ L93 9)), (11, (lookQ L93 11)), (13, v105), (14, v118), (15, v116), (16, v117), (17, v123), (18, (lookQ L93 18)), (19, (lookQ L93 19)), (20, (lookQ L93 20)), (21, (lookQ L93 21)), (36, (lookQ L93 36)), (38, (lookQ L93 38)), (39, (lookQ L93 39)), (40, (lookQ L93 40)), (41, (lookQ L93 41)), (56, (lookQ L93 56)), (58, (lookQ L93 58)), (59, (lookQ L93 59)), (60, (lookQ L93 60)), (61, v97), (74, v127), (76, (lookQ L93 76))] H124 e126) (
 I.cond v116 (
 I.load 160 H124 v118 fun v128 =>
 I.bslice 162 1 [(0, v128)] H124 fun v129 H130 =>
 I.blt true .append #[162, 162] n0 [(lookQ L93 9), v129] H130 fun v131 H132 f133 => (fun e134 =>
 j102 [(0, (lookQ L93 0)), (1, (lookQ L93 1)), (4, (lookQ L93 4)), (5, (lookQ L93 5)), (7, (lookQ L93 7)), (8, (lookQ L93 8)), (9, v131), (11, (lookQ L93 11)), (13, v105), (14, v118), (15, v116), (16, v117), (17, v123), (18, (lookQ L93 18)), (19, (lookQ L93 19)), (20, (lookQ L93 20)), (21, (lookQ L93 21)), (36, (lookQ L93 36)), (38, (lookQ L93 38)), (39, (lookQ L93 39)), (40, (lookQ L93 40)), (41, (lookQ L93 41)), (56, (lookQ L93 56)), (58, (lookQ L93 58)), (59, (lookQ L93 59)), (60, (lookQ L93 60)), (61, v97), (74, v127), (76, v116)] H132 e134) (escQ f133 e126)) (
 j102 [(0, (lookQ L93 0)), (1, (lookQ L93 1)), (4, (lookQ L93 4)), (5, (lookQ L93 5)), (7, (lookQ L93 7)), (8, (lookQ L93 8)), (9, (lookQ L93 9)), (11, (lookQ L93 11)), (13, v105), (14, v118), (15, v116), (16, v117), (17, v123), (18, (lookQ L93 18)), (19, (lookQ L93 19)), (20, (lookQ L93 20)), (21, (lookQ L93 21)), (36, (lookQ L93 36)), (38, (lookQ L93 38)), (39, (lookQ L93 39)), (40, (lookQ L93 40)), (41, (lookQ L93 41)), (56, (lookQ L93 56)), (58, (lookQ L93 58)), (59, (lookQ L93 59)), (60, (lookQ L93 60)), (61, v97), (74, v127), (76, v116)] H124 e126))) (escQ f125 e122)) (escQ f121 e114)) (escQ f113 e109)) (escQ f108 e95)) (
 k96 (.exit 4) [(0, (lookQ L93 0)), (1, (lookQ L93 1)), (4, (lookQ L93 4)), (5, (lookQ L93 5)), (7, (lookQ L93 7)), (8, (lookQ L93 8)), (9, (lookQ L93 9)), (11, (lookQ L93 11)), (13, (lookQ L93 13)), (14, (lookQ L93 14)), (15, (lookQ L93 15)), (16, (lookQ L93 16)), (17, (lookQ L93 17)), (18, (lookQ L93 18)), (19, (lookQ L93 19)), (20, (lookQ L93 20)), (21, (lookQ L93 21)), (36, (lookQ L93 36)), (38, (lookQ L93 38)), (39, (lookQ L93 39)), (40, (lookQ L93 40)), (41, (lookQ L93 41)), (56, (lookQ L93 56)), (58, (lookQ L93 58)), (59, (lookQ L93 59)), (60, (lookQ L93 60)), (61, v97), (74, (lookQ L93 74)), (76, (lookQ L93 76))] H94 e95)) fuel L91 H92 e89 (selK I.bot [(4, (fun L135 H136 e137 =>
 KK 94 [(lookQ L135 0), (lookQ L135 9)] H136 fun v138 H139 f140 => (fun e141 =>
 I.fin n0 H139 e141 [v138] k) (escQ f140 e137)))] (fun L142 H143 e144 =>
 I.fin n0 H143 e144 [(lookQ L142 4)] k))))] (fun L145 H146 e147 =>
 I.fin n0 H146 e147 [(lookQ L145 4)] k)))) (escQ f33 e30)) (escQ f29 e26)))] (fun _ _ _ => I.bot))) (lenQ H)
  | _ => I.bot⟩
theorem ok19 (R : Type) : TxtOk Tryz.prog U ann 19 (r19 R) := fun I fuel KO KK args H k => match args with
  | [] => .inl rfl
  | [_] => .inl rfl
  | [a0, a1] => .inr (by kernel_rfl)
  | _ :: _ :: _ :: _ => .inl rfl
/-- (*silt/core.Core).State -/
noncomputable def r22 (R : Type) : Bx (Txt R) := ⟨fun I fuel KO KK args H k => match args with
  | [a0] => (fun n0 =>
 I.alloc 32 H fun v0 H1 =>
 I.bin .eql 49 true a0 .nilp fun v2 =>
 I.cond v2 (
 I.build 32 [] fun v3 =>
 I.store n0 32 H1 v0 v3 fun H4 f5 => (fun e6 =>
 I.load 32 H4 v0 fun v7 =>
 I.fin n0 H4 e6 [v7] k) (escQ f5 false)) (
 I.nil a0 fun v8 =>
 I.fa 173 1 v8 fun v9 =>
 I.load 32 H1 v9 fun v10 =>
 I.alloc 32 H1 fun v11 H12 =>
 I.store n0 32 H12 v11 v10 fun H13 f14 => (fun e15 =>
 I.fa 32 1 v11 fun v16 =>
 I.load 28 H13 v16 fun v17 =>
 I.fa 32 2 v11 fun v18 =>
 I.load 28 H13 v18 fun v19 =>
 I.nil a0 fun v20 =>
 I.fa 173 2 v20 fun v21 =>
 I.load 150 H13 v21 fun v22 =>
 KK 97 [v17] H13 fun v23 H24 f25 => (fun e26 =>
 I.fa 32 1 v11 fun v27 =>
 KK 97 [v19] H24 fun v28 H29 f30 => (fun e31 =>
 KK 90 [v22] H29 fun v32 H33 f34 => (fun e35 =>
 I.store n0 28 H33 v27 v23 fun H36 f37 => (fun e38 =>
 I.fa 32 2 v11 fun v39 =>
 I.store n0 28 H36 v39 v28 fun H40 f41 => (fun e42 =>
 I.fa 32 3 v11 fun v43 =>
 I.store n0 30 H40 v43 v32 fun H44 f45 => (fun e46 =>
 I.load 28 H24 v18 fun v47 =>
 I.same v47 v19 (
 I.load 150 H24 v21 fun v48 =>
 I.same v48 v22 (
 I.load 150 H29 v21 fun v49 =>
 I.same v49 v22 (
 I.load 32 H44 v11 fun v50 =>
 I.store n0 32 H44 v0 v50 fun H51 f52 => (fun e53 =>
 I.load 32 H51 v0 fun v54 =>
 I.fin n0 H51 e53 [v54] k) (escQ f52 e46))))) (escQ f45 e42)) (escQ f41 e38)) (escQ f37 e35)) (escQ f34 e31)) (escQ f30 e26)) (escQ f25 e15)) (escQ f14 false))) (lenQ H)
  | _ => I.bot⟩
theorem ok22 (R : Type) : TxtOk Tryz.prog U ann 22 (r22 R) := fun I fuel KO KK args H k => match args with
  | [] => .inl rfl
  | [a0] => .inr (by kernel_rfl)
  | _ :: _ :: _ => .inl rfl
/-- silt/cache.New -/
noncomputable def r33 (R : Type) : Bx (Txt R) := ⟨fun I fuel KO KK args H k => match args with
  | [a0] => (fun n0 =>
 I.bin .eql 49 true a0 .nilp fun v0 =>
 I.cond v0 (
 I.fin n0 H false [.nilp, (.int .i64 1)] k) (
 KK 22 [a0] H fun v1 H2 f3 => (fun e4 =>
 I.alloc 32 H2 fun v5 H6 =>
 I.store n0 32 H6 v5 v1 fun H7 f8 => (fun e9 =>
 I.fa 32 0 v5 fun v10 =>
 I.fa 27 1 v10 fun v11 =>
 I.fa 24 3 v11 fun v12 =>
 I.load 3 H7 v12 fun v13 =>
 KK 107 [v13] H7 fun v14 H15 f16 => (fun e17 =>
 I.ext v14 0 fun v18 =>
 I.ext v14 1 fun v19 =>
 I.bin .neq 33 true v19 (.int .i64 0) fun v20 =>
 I.cond v20 (
 I.fin n0 H15 e17 [.nilp, v19] k) (
 I.fa 32 1 v5 fun v21 =>
 I.load 28 H15 v21 fun v22 =>
 I.len v22 fun v23 =>
 I.fa 32 1 v5 fun v24 =>
 I.load 28 H15 v24 fun v25 =>
 I.len v25 fun v26 =>
 I.mslice 28 v23 v23 H15 fun v27 H28 =>
 I.mslice 194 v26 v26 H28 fun v29 H30 =>
 I.bare H30 (
 I.build 196 [(0, a0), (1, v18), (2, v27), (3, v29)] fun v31 =>
 I.box v31 H30 fun v32 H33 =>
 I.load 28 H28 v24 fun v34 =>
 I.same v34 v25 (
 I.fa 32 1 v5 fun v35 =>
 I.load 28 H33 v35 fun v36 =>
 I.len v36 fun v37 =>
 I.head n0 1924145348736 [(0, a0), (2, .nilp), (3, (.int .i64 0)), (4, v5), (5, v18), (6, v19), (7, v32), (8, .bad), (9, .bad), (11, v0), (23, v20), (38, v36), (39, v37), (40, (.int .i64 0)), (41, .bad), (46, .bad)] H33 e17 fun L38 H39 => loopM I n0 1924145348736 (fun L40 H41 e42 k43 =>
 I.bin .lss 3 false (lookQ L40 40) (lookQ L40 39) fun v44 =>
 I.cond v44 (
 I.join (fun L45 H46 e47 =>
 I.bin .add 3 true (lookQ L45 40) (.int .i64 1) fun v48 =>
 k43 .normal [(0, (lookQ L45 0)), (2, (lookQ L45 2)), (3, (lookQ L45 3)), (4, (lookQ L45 4)), (5, (lookQ L45 5)), (6, (lookQ L45 6)), (7, (lookQ L45 7)), (8, (lookQ L45 8)), (9, (lookQ L45 9)), (11, (lookQ L45 11)), (23, (lookQ L45 23)), (38, (lookQ L45 38)), (39, (lookQ L45 39)), (40, v48), (41, (lookQ L45 41)), (46, (lookQ L45 46))] H46 e47) fun j49 =>
 I.ia 28 (lookQ L40 38) (lookQ L40 40) fun v50 =>
 I.load 3 H41 v50 fun v51 =>
 I.bin .neq 3 true v51 (.int .i64 0) fun v52 =>
 I.cond v52 (
 I.nil (lookQ L40 7) fun v53 =>
 I.fa 196 2 v53 fun v54 =>
 I.load 28 H41 v54 fun v55 =>
 I.ia 28 v55 (lookQ L40 40) fun v56 =>
 I.store n0 3 H41 v56 (.int .i64 1) fun H57 f58 => (fun e59 =>
 j49 [(0, (lookQ L40 0)), (2, (lookQ L40 2)), (3, (lookQ L40 3)), (4, (lookQ L40 4)), (5, (lookQ L40 5)), (6, (lookQ L40 6)), (7, (lookQ L40 7)), (8, (lookQ L40 40)), (9, v51), (11, (lookQ L40 11)), (23, (lookQ L40 23)), (38, (lookQ L40 38)), (39, (lookQ L40 39)), (40, (lookQ L40 40)), (41, v44), (46, v52)] H57 e59) (escQ f58 e42)) (
 j49 [(0, (lookQ L40 0)), (2, (lookQ L40 2)), (3, (lookQ L40 3)), (4, (lookQ L40 4)), (5, (lookQ L40 5)), (6, (lookQ L40 6)), (7, (lookQ L40 7)), (8, (lookQ L40 40)), (9, v51), (11, (lookQ L40 11)), (23, (lookQ L40 23)), (38, (lookQ L40 38)), (39, (lookQ L40 39)), (40, (lookQ L40 40)), (41, v44), (46, v52)] H41 e42)) (
 k43 (.exit 0) [(0, (lookQ L40 0)), (2, (lookQ L40 2)), (3, (lookQ L40 3)), (4, (lookQ L40 4)), (5, (lookQ L40 5)), (6, (lookQ L40 6)), (7, (lookQ L40 7)), (8, (lookQ L40 8)), (9, (lookQ L40 9)), (11, (lookQ L40 11)), (23, (lookQ L40 23)), (38, (lookQ L40 38)), (39, (lookQ L40 39)), (40, (lookQ L40 40)), (41, v44), (46, (lookQ L40 46))] H41 e42)) fuel L38 H39 e17 (selK I.bot [(0, (fun L60 H61 e62 =>
 I.fin n0 H61 e62 [(lookQ L60 7), (.int .i64 0)] k))] (fun _ _ _ => I.bot)))))) (escQ f16 e9)) (escQ f8 e4)) (escQ f3 false))) (lenQ H)
  | _ => I.bot⟩
theorem ok33 (R : Type) : TxtOk Tryz.prog U ann 33 (r33 R) := fun I fuel KO KK args H k => match args with
  | [] => .inl rfl
  | [a0] => .inr (by kernel_rfl)
  | _ :: _ :: _ => .inl rfl
/-- (*silt/cache.Cache).Now -/
noncomputable def r37 (R : Type) : Bx (Txt R) := ⟨fun I fuel KO KK args H k => match args with
  | [a0, a1] => (fun n0 =>
 I.alloc 40 H fun v0 H1 =>
 KK 43 [a0, a1] H1 fun v2 H3 f4 => (fun e5 =>
 I.bin .neq 33 true v2 (.int .i64 0) fun v6 =>
 I.cond v6 (
 I.build 40 [] fun v7 =>
 I.store n0 40 H3 v0 v7 fun H8 f9 => (fun e10 =>
 I.load 40 H8 v0 fun v11 =>
 I.fin n0 H8 e10 [v11, v2] k) (escQ f9 e5)) (
 KK 36 [a0, a1] H3 fun v12 H13 f14 => (fun e15 =>
 I.ext v12 0 fun v16 =>
 I.ext v12 1 fun v17 =>
 I.alloc 40 H13 fun v18 H19 =>
 I.store n0 40 H19 v18 v16 fun H20 f21 => (fun e22 =>
 I.cond v17 (
 I.load 40 H20 v18 fun v23 =>
 I.store n0 40 H20 v0 v23 fun H24 f25 => (fun e26 =>
 I.load 40 H24 v0 fun v27 =>
 I.fin n0 H24 e26 [v27, (.int .i64 0)] k) (escQ f25 e22)) (
 I.nil a0 fun v28 =>
 I.fa 196 3 v28 fun v29 =>
 I.load 194 H20 v29 fun v30 =>
 I.ia 194 v30 a1 fun v31 =>
 I.load 4 H20 v31 fun v32 =>
 I.cond v32 (
 I.build 40 [] fun v33 =>
 I.store n0 40 H20 v0 v33 fun H34 f35 => (fun e36 =>
 I.load 40 H34 v0 fun v37 =>
 I.fin n0 H34 e36 [v37, (.int .i64 0)] k) (escQ f35 e22)) (
 I.nil a0 fun v38 =>
 I.fa 196 0 v38 fun v39 =>
 I.load 49 H20 v39 fun v40 =>
 KK 18 [v40, a1] H20 fun v41 H42 f43 => (fun e44 =>
 I.ext v41 0 fun v45 =>
 I.ext v41 1 fun v46 =>
 I.alloc 42 H42 fun v47 H48 =>
 I.store n0 42 H48 v47 v45 fun H49 f50 => (fun e51 =>
 I.fa 42 1 v47 fun v52 =>
 I.load 40 H49 v52 fun v53 =>
 I.store n0 40 H49 v0 v53 fun H54 f55 => (fun e56 =>
 I.load 40 H54 v0 fun v57 =>
 I.fin n0 H54 e56 [v57, v46] k) (escQ f55 e51)) (escQ f50 e44)) (escQ f43 e22)))) (escQ f21 e15)) (escQ f14 e5))) (escQ f4 false)) (lenQ H)
  | _ => I.bot⟩
theorem ok37 (R : Type) : TxtOk Tryz.prog U ann 37 (r37 R) := fun I fuel KO KK args H k => match args with
  | [] => .inl rfl
  | [_] => .inl rfl
  | [a0, a1] => .inr (by kernel_rfl)
  | _ :: _ :: _ :: _ => .inl rfl
/-- (*silt/cache.Cache).Check -/
noncomputable def r43 (R : Type) : Bx (Txt R) := ⟨fun I fuel KO KK args H k => match args with
  | [a0, a1] => (fun n0 =>
 I.bin .eql 70 true a0 .nilp fun v0 =>
 I.cond v0 (
 I.fin n0 H false [(.int .i64 1)] k) (
 I.bin .lss 3 true a1 (.int .i64 0) fun v1 =>
 I.gd v1 false (fun K2 => K2 a1 H false) H false fun v3 H4 e5 =>
 I.gd v1 false (fun K6 => K6 a0 H4 e5) H4 e5 fun v7 H8 e9 =>
 I.gd v1 false (fun K10 => I.nil v7 fun v14 =>
 K10 v14 H8 e9) H8 e9 fun v11 H12 e13 =>
 I.gd v1 false (fun K15 => I.fa 196 2 v11 fun v19 =>
 K15 v19 H12 e13) H12 e13 fun v16 H17 e18 =>
 I.gd v1 false (fun K20 => I.load 28 H17 v16 fun v24 =>
 K20 v24 H17 e18) H17 e18 fun v21 H22 e23 =>
 I.gd v1 false (fun K25 => I.len v21 fun v29 =>
 K25 v29 H22 e23) H22 e23 fun v26 H27 e28 =>
 I.gd v1 false (fun K30 => I.bin .geq 3 false v3 v26 fun v34 =>
 K30 v34 H27 e28) H27 e28 fun v31 H32 e33 =>
 I.pick v1 (.bool true) v31 fun v35 =>
 I.cond v35 (
 I.fin n0 H32 e33 [(.int .i64 16)] k) (
 I.nil a0 fun v36 =>
 I.fa 196 2 v36 fun v37 =>
 I.load 28 H32 v37 fun v38 =>
 I.ia 28 v38 a1 fun v39 =>
 I.load 3 H32 v39 fun v40 =>
 I.bin .eql 3 true v40 (.int .i64 0) fun v41 =>
 I.cond v41 (
 I.fin n0 H32 e33 [(.int .i64 17)] k) (
 I.fin n0 H32 e33 [(.int .i64 0)] k)))) (lenQ H)
  | _ => I.bot⟩
theorem ok43 (R : Type) : TxtOk Tryz.prog U ann 43 (r43 R) := fun I fuel KO KK args H k => match args with
  | [] => .inl rfl
  | [_] => .inl rfl
  | [a0, a1] => .inr (by kernel_rfl)
  | _ :: _ :: _ :: _ => .inl rfl
/-- (*silt/cache.Cache).Core -/
noncomputable def r44 (R : Type) : Bx (Txt R) := ⟨fun I fuel KO KK args H k => match args with
  | [a0] => (fun n0 =>
 I.bin .eql 70 true a0 .nilp fun v0 =>
 I.cond v0 (
 I.fin n0 H false [.nilp] k) (
 I.nil a0 fun v1 =>
 I.fa 196 0 v1 fun v2 =>
 I.load 49 H v2 fun v3 =>
 I.fin n0 H false [v3] k)) (lenQ H)
  | _ => I.bot⟩
theorem ok44 (R : Type) : TxtOk Tryz.prog U ann 44 (r44 R) := fun I fuel KO KK args H k => match args with
  | [] => .inl rfl
  | [a0] => .inr (by kernel_rfl)
  | _ :: _ :: _ => .inl rfl
/-- (*silt/cache.Cache).Frames -/
noncomputable def r45 (R : Type) : Bx (Txt R) := ⟨fun I fuel KO KK args H k => match args with
  | [a0] => (fun n0 =>
 I.bin .eql 70 true a0 .nilp fun v0 =>
 I.cond v0 (
 I.fin n0 H false [.nilp] k) (
 I.nil a0 fun v1 =>
 I.fa 196 1 v1 fun v2 =>
 I.load 86 H v2 fun v3 =>
 I.fin n0 H false [v3] k)) (lenQ H)
  | _ => I.bot⟩
theorem ok45 (R : Type) : TxtOk Tryz.prog U ann 45 (r45 R) := fun I fuel KO KK args H k => match args with
  | [] => .inl rfl
  | [a0] => .inr (by kernel_rfl)
  | _ :: _ :: _ => .inl rfl
/-- (*silt/store.Store).Step -/
noncomputable def r57 (R : Type) : Bx (Txt R) := ⟨fun I fuel KO KK args H k => match args with
  | [a0, a1] => (fun n0 =>
 I.alloc 102 H fun v0 H1 =>
 KK 134 [a0, a1] H1 fun v2 H3 f4 => (fun e5 =>
 KK 133 [v2] H3 fun v6 H7 f8 => (fun e9 =>
 I.bin .neq 33 true v6 (.int .i64 0) fun v10 =>
 I.cond v10 (
 I.build 102 [] fun v11 =>
 I.store n0 102 H7 v0 v11 fun H12 f13 => (fun e14 =>
 I.load 102 H12 v0 fun v15 =>
 I.fin n0 H12 e14 [v15, (.bool false), v6] k) (escQ f13 e9)) (
 I.nil a0 fun v16 =>
 I.fa 228 2 v16 fun v17 =>
 I.ia 226 v17 a1 fun v18 =>
 I.load 225 H7 v18 fun v19 =>
 I.bin .eql 225 true v19 .nilp fun v20 =>
 I.cond v20 (
 I.build 102 [] fun v21 =>
 I.store n0 102 H7 v0 v21 fun H22 f23 => (fun e24 =>
 I.load 102 H22 v0 fun v25 =>
 I.fin n0 H22 e24 [v25, (.bool false), (.int .i64 23)] k) (escQ f23 e9)) (
 I.nil a0 fun v26 =>
 I.fa 228 0 v26 fun v27 =>
 I.load 70 H7 v27 fun v28 =>
 I.nil a0 fun v29 =>
 I.fa 228 1 v29 fun v30 =>
 I.load 96 H7 v30 fun v31 =>
 I.nil v19 fun v32 =>
 I.load 91 H7 v32 fun v33 =>
 I.nil a0 fun v34 =>
 I.fa 228 3 v34 fun v35 =>
 I.load 28 H7 v35 fun v36 =>
 I.len v36 fun v37 =>
 I.bin .eql 3 true v37 (.int .i64 0) fun v38 =>
 I.gd v38 false (fun K39 => K39 a0 H7 e9) H7 e9 fun v40 H41 e42 =>
 I.gd v38 false (fun K43 => I.nil v40 fun v47 =>
 K43 v47 H41 e42) H41 e42 fun v44 H45 e46 =>
 I.gd v38 false (fun K48 => I.fa 228 3 v44 fun v52 =>
 K48 v52 H45 e46) H45 e46 fun v49 H50 e51 =>
 I.gd v38 false (fun K53 => I.load 28 H50 v49 fun v57 =>
 K53 v57 H50 e51) H50 e51 fun v54 H55 e56 =>
 I.gd v38 false (fun K58 => I.ia 28 v54 (.int .i64 0) fun v62 =>
 K58 v62 H55 e56) H55 e56 fun v59 H60 e61 =>
 I.gd v38 false (fun K63 => I.load 3 H60 v59 fun v67 =>
 K63 v67 H60 e61) H60 e61 fun v64 H65 e66 =>
 I.gd v38 false (fun K68 => K68 a1 H65 e66) H65 e66 fun v69 H70 e71 =>
 I.gd v38 false (fun K72 => I.bin .eql 3 false v64 v69 fun v76 =>
 K72 v76 H70 e71) H70 e71 fun v73 H74 e75 =>
 I.pick v38 (.bool true) v73 fun v77 =>
 KK 52 [v28, v31, a1, v33, v77] H74 fun v78 H79 f80 => (fun e81 =>
 I.ext v78 0 fun v82 =>
 I.ext v78 1 fun v83 =>
 I.alloc 102 H79 fun v84 H85 =>
 I.bare H85 (
 I.store n0 102 H85 v84 v82 fun H86 f87 => (fun e88 =>
 I.join (fun L89 H90 e91 =>
 I.load 102 H90 (lookQ L89 9) fun v92 =>
 I.store n0 102 H90 (lookQ L89 4) v92 fun H93 f94 => (fun e95 =>
 I.load 102 H93 (lookQ L89 4) fun v96 =>
 I.fin n0 H93 e95 [v96, (lookQ L89 10), (.int .i64 0)] k) (escQ f94 e91)) fun j97 =>
 I.cond v83 (
 KK 135 [a0, a1] H86 fun v98 H99 f100 => (fun e101 =>
 j97 [(0, a0), (1, a1), (4, v0), (5, (.bool false)), (6, (.int .i64 0)), (7, v6), (8, v19), (9, v84), (10, v83), (16, v10), (26, v20), (60, v83), (65, .bad)] H99 e101) (escQ f100 e88)) (
 I.nil a0 fun v102 =>
 I.fa 228 3 v102 fun v103 =>
 I.load 28 H86 v103 fun v104 =>
 KK 136 [v104, a1] H86 fun v105 H106 f107 => (fun e108 =>
 I.un .not v105 fun v109 =>
 I.cond v109 (
 I.nil a0 fun v110 =>
 I.fa 228 3 v110 fun v111 =>
 I.load 28 H106 v111 fun v112 =>
 I.bslice 28 1 [(0, a1)] H106 fun v113 H114 =>
 I.blt true .append #[28, 28] n0 [v112, v113] H114 fun v115 H116 f117 => (fun e118 =>
 I.nil a0 fun v119 =>
 I.fa 228 3 v119 fun v120 =>
 I.store n0 28 H116 v120 v115 fun H121 f122 => (fun e123 =>
 j97 [(0, a0), (1, a1), (4, v0), (5, (.bool false)), (6, (.int .i64 0)), (7, v6), (8, v19), (9, v84), (10, v83), (16, v10), (26, v20), (60, v83), (65, v109)] H121 e123) (escQ f122 e118)) (escQ f117 e108)) (
 j97 [(0, a0), (1, a1), (4, v0), (5, (.bool false)), (6, (.int .i64 0)), (7, v6), (8, v19), (9, v84), (10, v83), (16, v10), (26, v20), (60, v83), (65, v109)] H106 e108)) (escQ f107 e88))) (escQ f87 e81))) (escQ f80 e75)))) (escQ f8 e5)) (escQ f4 false)) (lenQ H)
  | _ => I.bot⟩
theorem ok57 (R : Type) : TxtOk Tryz.prog U ann 57 (r57 R) := fun I fuel KO KK args H k => match args with
  | [] => .inl rfl
  | [_] => .inl rfl
  | [a0, a1] => .inr (by kernel_rfl)
  | _ :: _ :: _ :: _ => .inl rfl
/-- (*silt/store.Store).Play -/
noncomputable def r63 (R : Type) : Bx (Txt R) := ⟨fun I fuel KO KK args H k => match args with
  | [a0, a1] => (fun n0 =>
 I.bin .eql 110 true a0 .nilp fun v0 =>
 I.cond v0 (
 I.fin n0 H false [.nils] k) (
 I.len a1 fun v1 =>
 I.head n0 28705 [(0, a0), (1, a1), (4, .nils), (5, .nils), (7, .bad), (8, .bad), (9, .bad), (11, v0), (12, a1), (13, v1), (14, (.int .i64 0)), (15, .bad), (19, .bad), (20, .bad), (28, .bad), (37, .bad), (42, .bad), (46, .bad), (50, .bad)] H false fun L2 H3 => loopM I n0 28705 (fun L4 H5 e6 k7 =>
 I.bin .lss 3 false (lookQ L4 14) (lookQ L4 13) fun v8 =>
 I.cond v8 (
 I.ia 109 (lookQ L4 12) (lookQ L4 14) fun v9 =>
 I.load 107 H5 v9 fun v10 =>
 I.alloc 107 H5 fun v11 H12 =>
 I.store n0 107 H12 v11 v10 fun H13 f14 => (fun e15 =>
 I.fa 107 0 v11 fun v16 =>
 I.load 3 H13 v16 fun v17 =>
 I.join (fun L18 H19 e20 =>
 I.bin .add 3 true (lookQ L18 14) (.int .i64 1) fun v21 =>
 k7 .normal [(0, (lookQ L18 0)), (1, (lookQ L18 1)), (4, (lookQ L18 4)), (5, (lookQ L18 5)), (7, (lookQ L18 7)), (8, (lookQ L18 8)), (9, (lookQ L18 9)), (11, (lookQ L18 11)), (12, (lookQ L18 12)), (13, (lookQ L18 13)), (14, v21), (15, (lookQ L18 15)), (19, (lookQ L18 19)), (20, (lookQ L18 20)), (28, (lookQ L18 28)), (37, (lookQ L18 37)), (42, (lookQ L18 42)), (46, (lookQ L18 46)), (50, (lookQ L18 50))] H19 e20) fun j22 =>
 I.bin .eql 3 true v17 (.int .i64 1) fun v23 =>
 I.cond v23 (
 I.fa 107 1 v11 fun v24 =>
 I.load 3 H13 v24 fun v25 =>
 I.fa 107 2 v11 fun v26 =>
 I.load 91 H13 v26 fun v27 =>
 KK 59 [(lookQ L4 0), v25, v27] H13 fun v28 H29 f30 => (fun e31 =>
 j22 [(0, (lookQ L4 0)), (1, (lookQ L4 1)), (4, (lookQ L4 4)), (5, (lookQ L4 5)), (7, v11), (8, (lookQ L4 8)), (9, (lookQ L4 9)), (11, (lookQ L4 11)), (12, (lookQ L4 12)), (13, (lookQ L4 13)), (14, (lookQ L4 14)), (15, v8), (19, v17), (20, v23), (28, (lookQ L4 28)), (37, (lookQ L4 37)), (42, (lookQ L4 42)), (46, (lookQ L4 46)), (50, (lookQ L4 50))] H29 e31) (escQ f30 e15)) (
 I.bin .eql 3 true v17 (.int .i64 2) fun v32 =>
 I.cond v32 (
 I.fa 107 1 v11 fun v33 =>
 I.load 3 H13 v33 fun v34 =>
 KK 139 [(lookQ L4 0), v34] H13 fun v35 H36 f37 => (fun e38 =>
 I.ext v35 0 fun v39 =>
 I.ext v35 1 fun v40 =>
 I.alloc 233 H36 fun v41 H42 =>
 I.store n0 233 H42 v41 v39 fun H43 f44 => (fun e45 =>
 I.cond v40 (
 I.load 233 H43 v41 fun v46 =>
 I.bslice 118 1 [(0, v46)] H43 fun v47 H48 =>
 I.blt true .append #[118, 118] n0 [(lookQ L4 5), v47] H48 fun v49 H50 f51 => (fun e52 =>
 j22 [(0, (lookQ L4 0)), (1, (lookQ L4 1)), (4, (lookQ L4 4)), (5, v49), (7, v11), (8, v41), (9, v40), (11, (lookQ L4 11)), (12, (lookQ L4 12)), (13, (lookQ L4 13)), (14, (lookQ L4 14)), (15, v8), (19, v17), (20, v23), (28, v32), (37, v40), (42, (lookQ L4 42)), (46, (lookQ L4 46)), (50, (lookQ L4 50))] H50 e52) (escQ f51 e45)) (
 j22 [(0, (lookQ L4 0)), (1, (lookQ L4 1)), (4, (lookQ L4 4)), (5, (lookQ L4 5)), (7, v11), (8, v41), (9, v40), (11, (lookQ L4 11)), (12, (lookQ L4 12)), (13, (lookQ L4 13)), (14, (lookQ L4 14)), (15, v8), (19, v17), (20, v23), (28, v32), (37, v40), (42, (lookQ L4 42)), (46, (lookQ L4 46)), (50, (lookQ L4 50))] H43 e45)) (escQ f44 e38)) (escQ f37 e15)) (
 I.bin .eql 3 true v17 (.int .i64 3) fun v53 =>
 I.cond v53 (
 KK 60 [(lookQ L4 0)] H13 fun v54 H55 f56 => (fun e57 =>
 j22 [(0, (lookQ L4 0)), (1, (lookQ L4 1)), (4, (lookQ L4 4)), (5, (lookQ L4 5)), (7, v11), (8, (lookQ L4 8)), (9, (lookQ L4 9)), (11, (lookQ L4 11)), (12, (lookQ L4 12)), (13, (lookQ L4 13)), (14, (lookQ L4 14)), (15, v8), (19, v17), (20, v23), (28, v32), (37, (lookQ L4 37)), (42, v53), (46, (lookQ L4 46)), (50, (lookQ L4 50))] H55 e57) (escQ f56 e15)) (
 I.bin .eql 3 true v17 (.int .i64 4) fun v58 =>
 I.cond v58 (
 KK 61 [(lookQ L4 0)] H13 fun v59 H60 f61 => (fun e62 =>
 j22 [(0, (lookQ L4 0)), (1, (lookQ L4 1)), (4, (lookQ L4 4)), (5, (lookQ L4 5)), (7, v11), (8, (lookQ L4 8)), (9, (lookQ L4 9)), (11, (lookQ L4 11)), (12, (lookQ L4 12)), (13, (lookQ L4 13)), (14, (lookQ L4 14)), (15, v8), (19, v17), (20, v23), (28, v32), (37, (lookQ L4 37)), (42, v53), (46, v58), (50, (lookQ L4 50))] H60 e62) (escQ f61 e15)) (
 I.bin .eql 3 true v17 (.int .i64 5) fun v63 =>
 I.cond v63 (
 KK 62 [(lookQ L4 0)] H13 fun v64 H65 f66 => (fun e67 =>
 j22 [(0, (lookQ L4 0)), (1, (lookQ L4 1)), (4, (lookQ L4 4)), (5, (lookQ L4 5)), (7, v11), (8, (lookQ L4 8)), (9, (lookQ L4 9)), (11, (lookQ L4 11)), (12, (lookQ L4 12)), (13, (lookQ L4 13)), (14, (lookQ L4 14)), (15, v8), (19, v17), (20, v23), (28, v32), (37, (lookQ L4 37)), (42, v53), (46, v58), (50, v63)] H65 e67) (escQ f66 e15)) (
 j22 [(0, (lookQ L4 0)), (1, (lookQ L4 1)), (4, (lookQ L4 4)), (5, (lookQ L4 5)), (7, v11), (8, (lookQ L4 8)), (9, (lookQ L4 9)), (11, (lookQ L4 11)), (12, (lookQ L4 12)), (13, (lookQ L4 13)), (14, (lookQ L4 14)), (15, v8), (19, v17), (20, v23), (28, v32), (37, (lookQ L4 37)), (42, v53), (46, v58), (50, v63)] H13 e15)))))) (escQ f14 e6)) (
 k7 (.exit 0) [(0, (lookQ L4 0)), (1, (lookQ L4 1)), (4, (lookQ L4 4)), (5, (lookQ L4 5)), (7, (lookQ L4 7)), (8, (lookQ L4 8)), (9, (lookQ L4 9)), (11, (lookQ L4 11)), (12, (lookQ L4 12)), (13, (lookQ L4 13)), (14, (lookQ L4 14)), (15, v8), (19, (lookQ L4 19)), (20, (lookQ L4 20)), (28, (lookQ L4 28)), (37, (lookQ L4 37)), (42, (lookQ L4 42)), (46, (lookQ L4 46)), (50, (lookQ L4 50))] H5 e6)) fuel L2 H3 false (selK I.bot [(0, (fun L68 H69 e70 =>
 I.fin n0 H69 e70 [(lookQ L68 5)] k))] (fun _ _ _ => I.bot)))) (lenQ H)
  | _ => I.bot⟩
theorem ok63 (R : Type) : TxtOk Tryz.prog U ann 63 (r63 R) := fun I fuel KO KK args H k => match args with
  | [] => .inl rfl
  | [_] => .inl rfl
  | [a0, a1] => .inr (by kernel_rfl)
  | _ :: _ :: _ :: _ => .inl rfl
/-- (*silt/store.Store).Pages -/
noncomputable def r64 (R : Type) : Bx (Txt R) := ⟨fun I fuel KO KK args H k => match args with
  | [a0] => (fun n0 =>
 I.bin .eql 110 true a0 .nilp fun v0 =>
 I.cond v0 (
 I.fin n0 H false [.nils] k) (
 I.nil a0 fun v1 =>
 I.fa 228 0 v1 fun v2 =>
 I.load 70 H v2 fun v3 =>
 KK 44 [v3] H fun v4 H5 f6 => (fun e7 =>
 KK 22 [v4] H5 fun v8 H9 f10 => (fun e11 =>
 I.fld 32 1 v8 fun v12 =>
 I.len v12 fun v13 =>
 I.head n0 196617 [(0, a0), (2, .nils), (3, .nils), (4, .bad), (5, .bad), (6, .bad), (8, v0), (16, v13), (17, (.int .i64 0)), (18, .bad), (30, .bad)] H9 e11 fun L14 H15 => loopM I n0 196617 (fun L16 H17 e18 k19 =>
 I.bin .lss 3 false (lookQ L16 17) (lookQ L16 16) fun v20 =>
 I.cond v20 (
 I.join (fun L21 H22 e23 =>
 I.bin .add 3 true (lookQ L21 17) (.int .i64 1) fun v24 =>
 k19 .normal [(0, (lookQ L21 0)), (2, (lookQ L21 2)), (3, (lookQ L21 3)), (4, (lookQ L21 4)), (5, (lookQ L21 5)), (6, (lookQ L21 6)), (8, (lookQ L21 8)), (16, (lookQ L21 16)), (17, v24), (18, (lookQ L21 18)), (30, (lookQ L21 30))] H22 e23) fun j25 =>
 I.nil (lookQ L16 0) fun v26 =>
 I.fa 228 0 v26 fun v27 =>
 I.load 70 H17 v27 fun v28 =>
 KK 37 [v28, (lookQ L16 17)] H17 fun v29 H30 f31 => (fun e32 =>
 I.ext v29 0 fun v33 =>
 I.ext v29 1 fun v34 =>
 I.alloc 40 H30 fun v35 H36 =>
 I.store n0 40 H36 v35 v33 fun H37 f38 => (fun e39 =>
 I.bin .eql 33 true v34 (.int .i64 0) fun v40 =>
 I.cond v40 (
 I.load 40 H37 v35 fun v41 =>
 I.build 222 [(0, (lookQ L16 17)), (1, v41)] fun v42 =>
 I.bslice 120 1 [(0, v42)] H37 fun v43 H44 =>
 I.blt true .append #[120, 120] n0 [(lookQ L16 3), v43] H44 fun v45 H46 f47 => (fun e48 =>
 j25 [(0, (lookQ L16 0)), (2, (lookQ L16 2)), (3, v45), (4, (lookQ L16 17)), (5, v35), (6, v34), (8, (lookQ L16 8)), (16, (lookQ L16 16)), (17, (lookQ L16 17)), (18, v20), (30, v40)] H46 e48) (escQ f47 e39)) (
 j25 [(0, (lookQ L16 0)), (2, (lookQ L16 2)), (3, (lookQ L16 3)), (4, (lookQ L16 17)), (5, v35), (6, v34), (8, (lookQ L16 8)), (16, (lookQ L16 16)), (17, (lookQ L16 17)), (18, v20), (30, v40)] H37 e39)) (escQ f38 e32)) (escQ f31 e18)) (
 k19 (.exit 0) [(0, (lookQ L16 0)), (2, (lookQ L16 2)), (3, (lookQ L16 3)), (4, (lookQ L16 4)), (5, (lookQ L16 5)), (6, (lookQ L16 6)), (8, (lookQ L16 8)), (16, (lookQ L16 16)), (17, (lookQ L16 17)), (18, v20), (30, (lookQ L16 30))] H17 e18)) fuel L14 H15 e11 (selK I.bot [(0, (fun L49 H50 e51 =>
 I.fin n0 H50 e51 [(lookQ L49 3)] k))] (fun _ _ _ => I.bot))) (escQ f10 e7)) (escQ f6 false))) (lenQ H)
  | _ => I.bot⟩
theorem ok64 (R : Type) : TxtOk Tryz.prog U ann 64 (r64 R) := fun I fuel KO KK args H k => match args with
  | [] => .inl rfl
  | [a0] => .inr (by kernel_rfl)
  | _ :: _ :: _ => .inl rfl
/-- (*silt/store.Store).Status -/
noncomputable def r65 (R : Type) : Bx (Txt R) := ⟨fun I fuel KO KK args H k => match args with
  | [a0] => (fun n0 =>
 I.alloc 123 H fun v0 H1 =>
 I.bin .eql 110 true a0 .nilp fun v2 =>
 I.cond v2 (
 I.build 123 [] fun v3 =>
 I.store n0 123 H1 v0 v3 fun H4 f5 => (fun e6 =>
 I.load 123 H4 v0 fun v7 =>
 I.fin n0 H4 e6 [v7] k) (escQ f5 false)) (
 I.nil a0 fun v8 =>
 I.fa 228 0 v8 fun v9 =>
 I.load 70 H1 v9 fun v10 =>
 KK 44 [v10] H1 fun v11 H12 f13 => (fun e14 =>
 KK 22 [v11] H12 fun v15 H16 f17 => (fun e18 =>
 I.alloc 32 H16 fun v19 H20 =>
 I.store n0 32 H20 v19 v15 fun H21 f22 => (fun e23 =>
 I.fa 32 0 v19 fun v24 =>
 I.fa 27 1 v24 fun v25 =>
 I.load 24 H21 v25 fun v26 =>
 I.fa 32 3 v19 fun v27 =>
 I.fa 30 3 v27 fun v28 =>
 I.load 28 H21 v28 fun v29 =>
 I.len v29 fun v30 =>
 I.nil a0 fun v31 =>
 I.fa 228 0 v31 fun v32 =>
 I.load 70 H21 v32 fun v33 =>
 I.nil a0 fun v34 =>
 I.fa 228 0 v34 fun v35 =>
 I.load 70 H21 v35 fun v36 =>
 I.nil a0 fun v37 =>
 I.fa 228 0 v37 fun v38 =>
 I.load 70 H21 v38 fun v39 =>
 KK 64 [a0] H21 fun v40 H41 f42 => (fun e43 =>
 I.len v40 fun v44 =>
 KK 109 [v26] H41 fun v45 H46 f47 => (fun e48 =>
 KK 46 [v33] H46 fun v49 H50 f51 => (fun e52 =>
 KK 45 [v36] H50 fun v53 H54 f55 => (fun e56 =>
 KK 110 [v53] H54 fun v57 H58 f59 => (fun e60 =>
 KK 140 [v57] H58 fun v61 H62 f63 => (fun e64 =>
 KK 44 [v39] H62 fun v65 H66 f67 => (fun e68 =>
 KK 25 [v65] H66 fun v69 H70 f71 => (fun e72 =>
 I.build 123 [(0, v44), (1, v45), (2, v30), (3, v49), (4, v61), (5, v69)] fun v73 =>
 I.store n0 123 H70 v0 v73 fun H74 f75 => (fun e76 =>
 I.load 24 H41 v25 fun v77 =>
 I.same v77 v26 (
 I.load 28 H41 v28 fun v78 =>
 I.same v78 v29 (
 I.load 28 H46 v28 fun v79 =>
 I.same v79 v29 (
 I.load 28 H50 v28 fun v80 =>
 I.same v80 v29 (
 I.load 28 H54 v28 fun v81 =>
 I.same v81 v29 (
 I.load 28 H58 v28 fun v82 =>
 I.same v82 v29 (
 I.load 28 H62 v28 fun v83 =>
 I.same v83 v29 (
 I.load 28 H66 v28 fun v84 =>
 I.same v84 v29 (
 I.load 28 H70 v28 fun v85 =>
 I.same v85 v29 (
 I.load 70 H41 v32 fun v86 =>
 I.same v86 v33 (
 I.load 70 H46 v32 fun v87 =>
 I.same v87 v33 (
 I.load 70 H41 v35 fun v88 =>
 I.same v88 v36 (
 I.load 70 H46 v35 fun v89 =>
 I.same v89 v36 (
 I.load 70 H50 v35 fun v90 =>
 I.same v90 v36 (
 I.load 70 H41 v38 fun v91 =>
 I.same v91 v39 (
 I.load 70 H46 v38 fun v92 =>
 I.same v92 v39 (
 I.load 70 H50 v38 fun v93 =>
 I.same v93 v39 (
 I.load 70 H54 v38 fun v94 =>
 I.same v94 v39 (
 I.load 70 H58 v38 fun v95 =>
 I.same v95 v39 (
 I.load 70 H62 v38 fun v96 =>
 I.same v96 v39 (
 I.load 123 H74 v0 fun v97 =>
 I.fin n0 H74 e76 [v97] k))))))))))))))))))))) (escQ f75 e72)) (escQ f71 e68)) (escQ f67 e64)) (escQ f63 e60)) (escQ f59 e56)) (escQ f55 e52)) (escQ f51 e48)) (escQ f47 e43)) (escQ f42 e23)) (escQ f22 e18)) (escQ f17 e14)) (escQ f13 false))) (lenQ H)
  | _ => I.bot⟩
theorem ok65 (R : Type) : TxtOk Tryz.prog U ann 65 (r65 R) := fun I fuel KO KK args H k => match args with
  | [] => .inl rfl
  | [a0] => .inr (by kernel_rfl)
  | _ :: _ :: _ => .inl rfl
/-- silt/siltlaw29.wakes -/
noncomputable def r67 (R : Type) : Bx (Txt R) := ⟨fun I fuel KO KK args H k => match args with
  | [] => (fun n0 =>
 KK 13 [] H fun v0 H1 f2 => (fun e3 =>
 KK 131 [v0] H1 fun v4 H5 f6 => (fun e7 =>
 I.ext v4 0 fun v8 =>
 I.ext v4 1 fun v9 =>
 KK 13 [] H5 fun v10 H11 f12 => (fun e13 =>
 KK 141 [v10] H11 fun v14 H15 f16 => (fun e17 =>
 I.ext v14 0 fun v18 =>
 I.ext v14 1 fun v19 =>
 I.bin .eql 110 true v8 .nilp fun v20 =>
 I.gd v20 false (fun K21 => K21 v19 H15 e17) H15 e17 fun v22 H23 e24 =>
 I.gd v20 false (fun K25 => I.bin .neq 33 true v22 (.int .i64 0) fun v29 =>
 K25 v29 H23 e24) H23 e24 fun v26 H27 e28 =>
 I.pick v20 (.bool true) v26 fun v30 =>
 I.gd v30 false (fun K31 => K31 v18 H27 e28) H27 e28 fun v32 H33 e34 =>
 I.gd v30 false (fun K35 => I.bin .eql 236 true v32 .nilp fun v39 =>
 K35 v39 H33 e34) H33 e34 fun v36 H37 e38 =>
 I.pick v30 (.bool true) v36 fun v40 =>
 I.cond v40 (
 I.fin n0 H37 e38 [(.bool false)] k) (
 I.build 91 [(0, (.int .i64 3))] fun v41 =>
 I.build 107 [(0, (.int .i64 1)), (2, v41)] fun v42 =>
 I.build 107 [(0, (.int .i64 2))] fun v43 =>
 I.build 91 [(0, (.int .i64 5))] fun v44 =>
 I.build 107 [(0, (.int .i64 1)), (2, v44)] fun v45 =>
 I.build 107 [(0, (.int .i64 2))] fun v46 =>
 I.build 91 [(0, (.int .i64 4))] fun v47 =>
 I.build 107 [(0, (.int .i64 1)), (2, v47)] fun v48 =>
 I.build 107 [(0, (.int .i64 2))] fun v49 =>
 I.build 107 [(0, (.int .i64 3))] fun v50 =>
 I.bslice 109 7 [(0, v42), (1, v43), (2, v45), (3, v46), (4, v48), (5, v49), (6, v50)] H37 fun v51 H52 =>
 KK 68 [v9, v8, v51, (.int .i64 1000), .nils] H52 fun v53 H54 f55 => (fun e56 =>
 I.ext v53 0 fun v57 =>
 I.ext v53 1 fun v58 =>
 I.alloc 129 H54 fun v59 H60 =>
 I.store n0 129 H60 v59 v57 fun H61 f62 => (fun e63 =>
 I.bin .neq 33 true v58 (.int .i64 0) fun v64 =>
 I.gd v64 false (fun K65 => I.fa 129 2 v59 fun v69 =>
 K65 v69 H61 e63) H61 e63 fun v66 H67 e68 =>
 I.gd v64 false (fun K70 => I.load 110 H67 v66 fun v74 =>
 K70 v74 H67 e68) H67 e68 fun v71 H72 e73 =>
 I.gd v64 false (fun K75 => I.bin .eql 110 true v71 .nilp fun v79 =>
 K75 v79 H72 e73) H72 e73 fun v76 H77 e78 =>
 I.pick v64 (.bool true) v76 fun v80 =>
 I.gd v80 false (fun K81 => I.fa 129 0 v59 fun v85 =>
 K81 v85 H77 e78) H77 e78 fun v82 H83 e84 =>
 I.gd v80 false (fun K86 => I.load 118 H83 v82 fun v90 =>
 K86 v90 H83 e84) H83 e84 fun v87 H88 e89 =>
 I.gd v80 false (fun K91 => I.len v87 fun v95 =>
 K91 v95 H88 e89) H88 e89 fun v92 H93 e94 =>
 I.gd v80 false (fun K96 => I.bin .neq 3 true v92 (.int .i64 3) fun v100 =>
 K96 v100 H93 e94) H93 e94 fun v97 H98 e99 =>
 I.pick v80 (.bool true) v97 fun v101 =>
 I.gd v101 false (fun K102 => I.fa 129 1 v59 fun v106 =>
 K102 v106 H98 e99) H98 e99 fun v103 H104 e105 =>
 I.gd v101 false (fun K107 => I.load 3 H104 v103 fun v111 =>
 K107 v111 H104 e105) H104 e105 fun v108 H109 e110 =>
 I.gd v101 false (fun K112 => I.bin .neq 3 true v108 (.int .i64 2) fun v116 =>
 K112 v116 H109 e110) H109 e110 fun v113 H114 e115 =>
 I.pick v101 (.bool true) v113 fun v117 =>
 I.cond v117 (
 I.fin n0 H114 e115 [(.bool false)] k) (
 I.fa 129 0 v59 fun v118 =>
 I.load 118 H114 v118 fun v119 =>
 I.fa 129 1 v59 fun v120 =>
 I.load 3 H114 v120 fun v121 =>
 KK 70 [v18, v119, v121] H114 fun v122 H123 f124 => (fun e125 =>
 I.len v122 fun v126 =>
 I.bin .eql 3 true v126 (.int .i64 2) fun v127 =>
 I.gd v127 true (fun K128 => K128 v122 H123 e125) H123 e125 fun v129 H130 e131 =>
 I.gd v127 true (fun K132 => I.ia 133 v129 (.int .i64 0) fun v136 =>
 K132 v136 H130 e131) H130 e131 fun v133 H134 e135 =>
 I.gd v127 true (fun K137 => I.load 236 H134 v133 fun v141 =>
 K137 v141 H134 e135) H134 e135 fun v138 H139 e140 =>
 I.gd v127 true (fun K142 => I.bin .neq 236 true v138 .nilp fun v146 =>
 K142 v146 H139 e140) H139 e140 fun v143 H144 e145 =>
 I.pick v127 v143 (.bool false) fun v147 =>
 I.gd v147 true (fun K148 => K148 v122 H144 e145) H144 e145 fun v149 H150 e151 =>
 I.gd v147 true (fun K152 => I.ia 133 v149 (.int .i64 1) fun v156 =>
 K152 v156 H150 e151) H150 e151 fun v153 H154 e155 =>
 I.gd v147 true (fun K157 => I.load 236 H154 v153 fun v161 =>
 K157 v161 H154 e155) H154 e155 fun v158 H159 e160 =>
 I.gd v147 true (fun K162 => I.bin .neq 236 true v158 .nilp fun v166 =>
 K162 v166 H159 e160) H159 e160 fun v163 H164 e165 =>
 I.pick v147 v163 (.bool false) fun v167 =>
 I.gd v167 true (fun K168 => K168 v122 H164 e165) H164 e165 fun v169 H170 e171 =>
 I.gd v167 true (fun K172 => I.ia 133 v169 (.int .i64 0) fun v176 =>
 K172 v176 H170 e171) H170 e171 fun v173 H174 e175 =>
 I.gd v167 true (fun K177 => I.load 236 H174 v173 fun v181 =>
 K177 v181 H174 e175) H174 e175 fun v178 H179 e180 =>
 I.gd v167 true (fun K182 => KK 142 [v178] H179 fun v186 H187 f188 => (fun e189 =>
 K182 v186 H187 e189) (escQ f188 e180)) H179 e180 fun v183 H184 e185 =>
 I.gd v167 true (fun K190 => I.len v183 fun v194 =>
 K190 v194 H184 e185) H184 e185 fun v191 H192 e193 =>
 I.gd v167 true (fun K195 => I.bin .eql 3 true v191 (.int .i64 1) fun v199 =>
 K195 v199 H192 e193) H192 e193 fun v196 H197 e198 =>
 I.pick v167 v196 (.bool false) fun v200 =>
 I.gd v200 true (fun K201 => K201 v122 H197 e198) H197 e198 fun v202 H203 e204 =>
 I.gd v200 true (fun K205 => I.ia 133 v202 (.int .i64 1) fun v209 =>
 K205 v209 H203 e204) H203 e204 fun v206 H207 e208 =>
 I.gd v200 true (fun K210 => I.load 236 H207 v206 fun v214 =>
 K210 v214 H207 e208) H207 e208 fun v211 H212 e213 =>
 I.gd v200 true (fun K215 => KK 142 [v211] H212 fun v219 H220 f221 => (fun e222 =>
 K215 v219 H220 e222) (escQ f221 e213)) H212 e213 fun v216 H217 e218 =>
 I.gd v200 true (fun K223 => I.len v216 fun v227 =>
 K223 v227 H217 e218) H217 e218 fun v224 H225 e226 =>
 I.gd v200 true (fun K228 => I.bin .eql 3 true v224 (.int .i64 0) fun v232 =>
 K228 v232 H225 e226) H225 e226 fun v229 H230 e231 =>
 I.pick v200 v229 (.bool false) fun v233 =>
 I.gd v233 true (fun K234 => I.fa 129 2 v59 fun v238 =>
 K234 v238 H230 e231) H230 e231 fun v235 H236 e237 =>
 I.gd v233 true (fun K239 => I.load 110 H236 v235 fun v243 =>
 K239 v243 H236 e237) H236 e237 fun v240 H241 e242 =>
 I.gd v233 true (fun K244 => K244 v122 H241 e242) H241 e242 fun v245 H246 e247 =>
 I.gd v233 true (fun K248 => KK 69 [v240, v245] H246 fun v252 H253 f254 => (fun e255 =>
 K248 v252 H253 e255) (escQ f254 e247)) H246 e247 fun v249 H250 e251 =>
 I.gd v233 true (fun K256 => I.bin .eql 3 true v249 (.int .i64 1) fun v260 =>
 K256 v260 H250 e251) H250 e251 fun v257 H258 e259 =>
 I.pick v233 v257 (.bool false) fun v261 =>
 I.gd v261 true (fun K262 => I.fa 129 2 v59 fun v266 =>
 K262 v266 H258 e259) H258 e259 fun v263 H264 e265 =>
 I.gd v261 true (fun K267 => I.load 110 H264 v263 fun v271 =>
 K267 v271 H264 e265) H264 e265 fun v268 H269 e270 =>
 I.gd v261 true (fun K272 => K272 v122 H269 e270) H269 e270 fun v273 H274 e275 =>
 I.gd v261 true (fun K276 => I.slice 133 H274 v273 none (some (.int .i64 1)) fun v280 =>
 K276 v280 H274 e275) H274 e275 fun v277 H278 e279 =>
 I.gd v261 true (fun K281 => KK 69 [v268, v277] H278 fun v285 H286 f287 => (fun e288 =>
 K281 v285 H286 e288) (escQ f287 e279)) H278 e279 fun v282 H283 e284 =>
 I.gd v261 true (fun K289 => I.bin .eql 3 true v282 (.int .i64 (-1)) fun v293 =>
 K289 v293 H283 e284) H283 e284 fun v290 H291 e292 =>
 I.pick v261 v290 (.bool false) fun v294 =>
 I.fin n0 H291 e292 [v294] k) (escQ f124 e115))) (escQ f62 e56)) (escQ f55 e38))) (escQ f16 e13)) (escQ f12 e7)) (escQ f6 e3)) (escQ f2 false)) (lenQ H)
  | _ => I.bot⟩
theorem ok67 (R : Type) : TxtOk Tryz.prog U ann 67 (r67 R) := fun I fuel KO KK args H k => match args with
  | [] => .inr (by kernel_rfl)
  | _ :: _ => .inl rfl
/-- silt/crash.Run -/
noncomputable def r68 (R : Type) : Bx (Txt R) := ⟨fun I fuel KO KK args H k => match args with
  | [a0, a1, a2, a3, a4] => (fun n0 =>
 I.alloc 129 H fun v0 H1 =>
 KK 144 [a0, a1, a3] H1 fun v2 H3 f4 => (fun e5 =>
 I.mkI 33 (.int .i64 1) fun v6 =>
 KK 143 [v2, v6] H3 fun v7 H8 f9 => (fun e10 =>
 I.cond v7 (
 I.build 129 [] fun v11 =>
 I.store n0 129 H8 v0 v11 fun H12 f13 => (fun e14 =>
 I.load 129 H12 v0 fun v15 =>
 I.fin n0 H12 e14 [v15, (.int .i64 1)] k) (escQ f13 e10)) (
 KK 145 [a0, a3] H8 fun v16 H17 f18 => (fun e19 =>
 I.alloc 129 H17 fun v20 H21 =>
 I.len a2 fun v22 =>
 I.head n0 3758101523 [(0, a0), (1, a1), (2, a2), (3, a3), (4, a4), (10, v0), (11, (.int .i64 0)), (12, v20), (14, .bad), (16, .bad), (17, .bad), (18, .bad), (24, v7), (29, a2), (30, v22), (31, (.int .i64 0)), (32, .bad), (37, .bad), (41, .bad), (42, .bad), (43, .bad), (44, .bad), (62, .bad), (78, .bad)] H21 e19 fun L23 H24 => loopM I n0 3758101523 (fun L25 H26 e27 k28 =>
 I.bin .lss 3 false (lookQ L25 31) (lookQ L25 30) fun v29 =>
 I.cond v29 (
 I.ia 109 (lookQ L25 29) (lookQ L25 31) fun v30 =>
 I.load 107 H26 v30 fun v31 =>
 I.alloc 107 H26 fun v32 H33 =>
 I.store n0 107 H33 v32 v31 fun H34 f35 => (fun e36 =>
 KK 65 [(lookQ L25 1)] H34 fun v37 H38 f39 => (fun e40 =>
 I.fld 123 5 v37 fun v41 =>
 I.cond v41 (
 k28 (.exit 0) [(0, (lookQ L25 0)), (1, (lookQ L25 1)), (2, (lookQ L25 2)), (3, (lookQ L25 3)), (4, (lookQ L25 4)), (10, (lookQ L25 10)), (11, (lookQ L25 11)), (12, (lookQ L25 12)), (14, v32), (16, (lookQ L25 16)), (17, (lookQ L25 17)), (18, (lookQ L25 18)), (24, (lookQ L25 24)), (29, (lookQ L25 29)), (30, (lookQ L25 30)), (31, (lookQ L25 31)), (32, v29), (37, v41), (41, (lookQ L25 41)), (42, (lookQ L25 42)), (43, (lookQ L25 43)), (44, (lookQ L25 44)), (62, (lookQ L25 62)), (78, (lookQ L25 78))] H38 e40) (
 I.load 107 H38 v32 fun v42 =>
 I.bslice 109 1 [(0, v42)] H38 fun v43 H44 =>
 KK 63 [(lookQ L25 1), v43] H44 fun v45 H46 f47 => (fun e48 =>
 I.len v45 fun v49 =>
 I.head n0 15396920890387 [(0, (lookQ L25 0)), (1, (lookQ L25 1)), (2, (lookQ L25 2)), (3, (lookQ L25 3)), (4, (lookQ L25 4)), (10, (lookQ L25 10)), (11, (lookQ L25 11)), (12, (lookQ L25 12)), (14, v32), (16, (lookQ L25 16)), (17, (lookQ L25 17)), (18, (lookQ L25 18)), (24, (lookQ L25 24)), (29, (lookQ L25 29)), (30, (lookQ L25 30)), (31, (lookQ L25 31)), (32, v29), (37, v41), (41, v45), (42, v49), (43, (.int .i64 0)), (44, (lookQ L25 44)), (62, (lookQ L25 62)), (78, (lookQ L25 78))] H46 e48 fun L50 H51 => loopM I n0 15396920890387 (fun L52 H53 e54 k55 =>
 I.bin .lss 3 false (lookQ L52 43) (lookQ L52 42) fun v56 =>
 I.cond v56 (
 I.join (fun L57 H58 e59 =>
 I.bin .add 3 true (lookQ L57 43) (.int .i64 1) fun v60 =>
 k55 .normal [(0, (lookQ L57 0)), (1, (lookQ L57 1)), (2, (lookQ L57 2)), (3, (lookQ L57 3)), (4, (lookQ L57 4)), (10, (lookQ L57 10)), (11, (lookQ L57 11)), (12, (lookQ L57 12)), (14, (lookQ L57 14)), (16, (lookQ L57 16)), (17, (lookQ L57 17)), (18, (lookQ L57 18)), (24, (lookQ L57 24)), (29, (lookQ L57 29)), (30, (lookQ L57 30)), (31, (lookQ L57 31)), (32, (lookQ L57 32)), (37, (lookQ L57 37)), (41, (lookQ L57 41)), (42, (lookQ L57 42)), (43, v60), (44, (lookQ L57 44)), (62, (lookQ L57 62)), (78, (lookQ L57 78))] H58 e59) fun j61 =>
 I.ia 118 (lookQ L52 41) (lookQ L52 43) fun v62 =>
 I.load 233 H53 v62 fun v63 =>
 I.alloc 233 H53 fun v64 H65 =>
 I.store n0 233 H65 v64 v63 fun H66 f67 => (fun e68 =>
 I.fa 129 0 (lookQ L52 12) fun v69 =>
 I.load 118 H66 v69 fun v70 =>
 I.load 233 H66 v64 fun v71 =>
 I.bslice 118 1 [(0, v71)] H66 fun v72 H73 =>
 I.blt true .append #[118, 118] n0 [v70, v72] H73 fun v74 H75 f76 => (fun e77 =>
 I.fa 129 0 (lookQ L52 12) fun v78 =>
 I.store n0 118 H75 v78 v74 fun H79 f80 => (fun e81 =>
 I.fa 233 1 v64 fun v82 =>
 I.fa 91 0 v82 fun v83 =>
 I.load 3 H79 v83 fun v84 =>
 I.bin .eql 3 true v84 (.int .i64 5) fun v85 =>
 I.gd v85 true (fun K86 => I.fa 233 2 v64 fun v90 =>
 K86 v90 H79 e81) H79 e81 fun v87 H88 e89 =>
 I.gd v85 true (fun K91 => I.fa 102 0 v87 fun v95 =>
 K91 v95 H88 e89) H88 e89 fun v92 H93 e94 =>
 I.gd v85 true (fun K96 => I.load 33 H93 v92 fun v100 =>
 K96 v100 H93 e94) H93 e94 fun v97 H98 e99 =>
 I.gd v85 true (fun K101 => I.bin .eql 33 true v97 (.int .i64 0) fun v105 =>
 K101 v105 H98 e99) H98 e99 fun v102 H103 e104 =>
 I.pick v85 v102 (.bool false) fun v106 =>
 I.cond v106 (
 I.fa 129 0 (lookQ L52 12) fun v107 =>
 I.load 118 H103 v107 fun v108 =>
 I.len v108 fun v109 =>
 I.fa 129 1 (lookQ L52 12) fun v110 =>
 I.store n0 3 H103 v110 v109 fun H111 f112 => (fun e113 =>
 j61 [(0, (lookQ L52 0)), (1, (lookQ L52 1)), (2, (lookQ L52 2)), (3, (lookQ L52 3)), (4, (lookQ L52 4)), (10, (lookQ L52 10)), (11, (lookQ L52 11)), (12, (lookQ L52 12)), (14, (lookQ L52 14)), (16, v64), (17, (lookQ L52 17)), (18, (lookQ L52 18)), (24, (lookQ L52 24)), (29, (lookQ L52 29)), (30, (lookQ L52 30)), (31, (lookQ L52 31)), (32, (lookQ L52 32)), (37, (lookQ L52 37)), (41, (lookQ L52 41)), (42, (lookQ L52 42)), (43, (lookQ L52 43)), (44, v56), (62, v106), (78, (lookQ L52 78))] H111 e113) (escQ f112 e104)) (
 j61 [(0, (lookQ L52 0)), (1, (lookQ L52 1)), (2, (lookQ L52 2)), (3, (lookQ L52 3)), (4, (lookQ L52 4)), (10, (lookQ L52 10)), (11, (lookQ L52 11)), (12, (lookQ L52 12)), (14, (lookQ L52 14)), (16, v64), (17, (lookQ L52 17)), (18, (lookQ L52 18)), (24, (lookQ L52 24)), (29, (lookQ L52 29)), (30, (lookQ L52 30)), (31, (lookQ L52 31)), (32, (lookQ L52 32)), (37, (lookQ L52 37)), (41, (lookQ L52 41)), (42, (lookQ L52 42)), (43, (lookQ L52 43)), (44, v56), (62, v106), (78, (lookQ L52 78))] H103 e104)) (escQ f80 e77)) (escQ f76 e68)) (escQ f67 e54)) (
 k55 (.exit 2) [(0, (lookQ L52 0)), (1, (lookQ L52 1)), (2, (lookQ L52 2)), (3, (lookQ L52 3)), (4, (lookQ L52 4)), (10, (lookQ L52 10)), (11, (lookQ L52 11)), (12, (lookQ L52 12)), (14, (lookQ L52 14)), (16, (lookQ L52 16)), (17, (lookQ L52 17)), (18, (lookQ L52 18)), (24, (lookQ L52 24)), (29, (lookQ L52 29)), (30, (lookQ L52 30)), (31, (lookQ L52 31)), (32, (lookQ L52 32)), (37, (lookQ L52 37)), (41, (lookQ L52 41)), (42, (lookQ L52 42)), (43, (lookQ L52 43)), (44, v56), (62, (lookQ L52 62)), (78, (lookQ L52 78))] H53 e54)) fuel L50 H51 e48 (selK I.bot [(2, (fun L114 H115 e116 =>
 I.bin .add 3 true (lookQ L114 31) (.int .i64 1) fun v117 =>
 k28 .normal [(0, (lookQ L114 0)), (1, (lookQ L114 1)), (2, (lookQ L114 2)), (3, (lookQ L114 3)), (4, (lookQ L114 4)), (10, (lookQ L114 10)), (11, (lookQ L114 11)), (12, (lookQ L114 12)), (14, (lookQ L114 14)), (16, (lookQ L114 16)), (17, (lookQ L114 17)), (18, (lookQ L114 18)), (24, (lookQ L114 24)), (29, (lookQ L114 29)), (30, (lookQ L114 30)), (31, v117), (32, (lookQ L114 32)), (37, (lookQ L114 37)), (41, (lookQ L114 41)), (42, (lookQ L114 42)), (43, (lookQ L114 43)), (44, (lookQ L114 44)), (62, (lookQ L114 62)), (78, (lookQ L114 78))] H115 e116))] (fun _ _ _ => I.bot))) (escQ f47 e40))) (escQ f39 e36)) (escQ f35 e27)) (
 k28 (.exit 0) [(0, (lookQ L25 0)), (1, (lookQ L25 1)), (2, (lookQ L25 2)), (3, (lookQ L25 3)), (4, (lookQ L25 4)), (10, (lookQ L25 10)), (11, (lookQ L25 11)), (12, (lookQ L25 12)), (14, (lookQ L25 14)), (16, (lookQ L25 16)), (17, (lookQ L25 17)), (18, (lookQ L25 18)), (24, (lookQ L25 24)), (29, (lookQ L25 29)), (30, (lookQ L25 30)), (31, (lookQ L25 31)), (32, v29), (37, (lookQ L25 37)), (41, (lookQ L25 41)), (42, (lookQ L25 42)), (43, (lookQ L25 43)), (44, (lookQ L25 44)), (62, (lookQ L25 62)), (78, (lookQ L25 78))] H26 e27)) fuel L23 H24 e19 (selK I.bot [(0, (fun L118 H119 e120 =>
 KK 84 [(lookQ L118 0), (lookQ L118 4)] H119 fun v121 H122 f123 => (fun e124 =>
 KK 56 [(lookQ L118 0)] H122 fun v125 H126 f127 => (fun e128 =>
 I.ext v125 0 fun v129 =>
 I.ext v125 1 fun v130 =>
 I.bin .neq 33 true v130 (.int .i64 0) fun v131 =>
 I.cond v131 (
 I.build 129 [] fun v132 =>
 I.store n0 129 H126 (lookQ L118 10) v132 fun H133 f134 => (fun e135 =>
 I.load 129 H133 (lookQ L118 10) fun v136 =>
 I.fin n0 H133 e135 [v136, v130] k) (escQ f134 e128)) (
 I.fa 129 2 (lookQ L118 12) fun v137 =>
 I.store n0 110 H126 v137 v129 fun H138 f139 => (fun e140 =>
 I.load 129 H138 (lookQ L118 12) fun v141 =>
 I.store n0 129 H138 (lookQ L118 10) v141 fun H142 f143 => (fun e144 =>
 I.load 129 H142 (lookQ L118 10) fun v145 =>
 I.fin n0 H142 e144 [v145, (.int .i64 0)] k) (escQ f143 e140)) (escQ f139 e128))) (escQ f127 e124)) (escQ f123 e120))), (2, (fun L146 H147 e148 =>
 I.bot))] (fun _ _ _ => I.bot))) (escQ f18 e10))) (escQ f9 e5)) (escQ f4 false)) (lenQ H)
  | _ => I.bot⟩
theorem ok68 (R : Type) : TxtOk Tryz.prog U ann 68 (r68 R) := fun I fuel KO KK args H k => match args with
  | [] => .inl rfl
  | [_] => .inl rfl
  | [_, _] => .inl rfl
  | [_, _, _] => .inl rfl
  | [_, _, _, _] => .inl rfl
  | [a0, a1, a2, a3, a4] => .inr (by kernel_rfl)
  | _ :: _ :: _ :: _ :: _ :: _ :: _ => .inl rfl
/-- silt/recover.load -/
noncomputable def r71 (R : Type) : Bx (Txt R) := ⟨fun I fuel KO KK args H k => match args with
  | [a0] => (fun n0 =>
 I.alloc 32 H fun v0 H1 =>
 KK 152 [a0] H1 fun v2 H3 f4 => (fun e5 =>
 I.ext v2 0 fun v6 =>
 I.ext v2 1 fun v7 =>
 I.alloc 27 H3 fun v8 H9 =>
 I.store n0 27 H9 v8 v6 fun H10 f11 => (fun e12 =>
 I.bin .neq 33 true v7 (.int .i64 0) fun v13 =>
 I.cond v13 (
 I.build 32 [] fun v14 =>
 KK 153 [v7, (.str ⟨#[114, 101, 103, 105, 111, 110]⟩)] H10 fun v15 H16 f17 => (fun e18 =>
 I.store n0 32 H16 v0 v14 fun H19 f20 => (fun e21 =>
 I.load 32 H19 v0 fun v22 =>
 I.fin n0 H19 e21 [v22, v15] k) (escQ f20 e18)) (escQ f17 e12)) (
 I.load 27 H10 v8 fun v23 =>
 I.build 32 [(0, v23)] fun v24 =>
 I.alloc 32 H10 fun v25 H26 =>
 I.store n0 32 H26 v25 v24 fun H27 f28 => (fun e29 =>
 KK 154 [a0, v25] H27 fun v30 H31 f32 => (fun e33 =>
 I.bin .neq 137 true v30 .nili fun v34 =>
 I.cond v34 (
 I.build 32 [] fun v35 =>
 I.store n0 32 H31 v0 v35 fun H36 f37 => (fun e38 =>
 I.load 32 H36 v0 fun v39 =>
 I.fin n0 H36 e38 [v39, v30] k) (escQ f37 e33)) (
 I.fa 27 2 v8 fun v40 =>
 I.load 3 H31 v40 fun v41 =>
 I.fa 27 3 v8 fun v42 =>
 I.load 3 H31 v42 fun v43 =>
 I.fa 27 4 v8 fun v44 =>
 I.load 22 H31 v44 fun v45 =>
 I.build 30 [(0, v41), (1, v43), (2, v45)] fun v46 =>
 I.alloc 30 H31 fun v47 H48 =>
 I.store n0 30 H48 v47 v46 fun H49 f50 => (fun e51 =>
 I.load 32 H49 v25 fun v52 =>
 I.load 30 H49 v47 fun v53 =>
 KK 155 [a0, v52, v53] H49 fun v54 H55 f56 => (fun e57 =>
 I.ext v54 0 fun v58 =>
 I.ext v54 1 fun v59 =>
 I.bin .neq 137 true v59 .nili fun v60 =>
 I.cond v60 (
 I.build 32 [] fun v61 =>
 KK 86 [v59, (.str ⟨#[115, 116, 97, 116, 101]⟩)] H55 fun v62 H63 f64 => (fun e65 =>
 I.store n0 32 H63 v0 v61 fun H66 f67 => (fun e68 =>
 I.load 32 H66 v0 fun v69 =>
 I.fin n0 H66 e68 [v69, v62] k) (escQ f67 e65)) (escQ f64 e57)) (
 I.fa 27 1 v8 fun v70 =>
 I.load 24 H55 v70 fun v71 =>
 I.fa 27 2 v8 fun v72 =>
 I.load 3 H55 v72 fun v73 =>
 KK 157 [v71, v58] H55 fun v74 H75 f76 => (fun e77 =>
 KK 156 [v74, v73] H75 fun v78 H79 f80 => (fun e81 =>
 I.fa 30 3 v47 fun v82 =>
 I.store n0 28 H79 v82 v78 fun H83 f84 => (fun e85 =>
 I.load 3 H75 v72 fun v86 =>
 I.same v86 v73 (
 I.fa 27 1 v8 fun v87 =>
 I.load 24 H83 v87 fun v88 =>
 I.load 30 H83 v47 fun v89 =>
 KK 158 [a0, v88, v89] H83 fun v90 H91 f92 => (fun e93 =>
 I.ext v90 0 fun v94 =>
 I.ext v90 1 fun v95 =>
 I.ext v90 2 fun v96 =>
 I.alloc 30 H91 fun v97 H98 =>
 I.store n0 30 H98 v97 v95 fun H99 f100 => (fun e101 =>
 I.bin .neq 33 true v96 (.int .i64 0) fun v102 =>
 I.cond v102 (
 I.build 32 [] fun v103 =>
 KK 159 [(.str ⟨#[115, 99, 97, 110]⟩)] H99 fun v104 H105 f106 => (fun e107 =>
 I.store n0 32 H105 v0 v103 fun H108 f109 => (fun e110 =>
 I.load 32 H108 v0 fun v111 =>
 I.fin n0 H108 e110 [v111, v104] k) (escQ f109 e107)) (escQ f106 e101)) (
 I.len v94 fun v112 =>
 I.head n0 528905046081400263938117 [(0, a0), (2, v0), (3, .nili), (4, v8), (5, v96), (6, v25), (7, v30), (8, v47), (9, v58), (10, v59), (11, v94), (12, v97), (14, .bad), (15, .bad), (17, .bad), (24, v13), (33, v34), (51, v60), (73, v102), (76, v94), (77, v112), (78, (.int .i64 0)), (79, .bad), (85, .bad), (99, .bad)] H99 e101 fun L113 H114 => loopM I n0 528905046081400263938117 (fun L115 H116 e117 k118 =>
 I.bin .lss 3 false (lookQ L115 78) (lookQ L115 77) fun v119 =>
 I.cond v119 (
 I.ia 255 (lookQ L115 76) (lookQ L115 78) fun v120 =>
 I.load 260 H116 v120 fun v121 =>
 I.alloc 260 H116 fun v122 H123 =>
 I.store n0 260 H123 v122 v121 fun H124 f125 => (fun e126 =>
 I.load 260 H124 v122 fun v127 =>
 KK 160 [(lookQ L115 6), v127] H124 fun v128 H129 f130 => (fun e131 =>
 I.bin .neq 137 true v128 .nili fun v132 =>
 I.cond v132 (
 I.build 32 [] fun v133 =>
 I.store n0 32 H129 (lookQ L115 2) v133 fun H134 f135 => (fun e136 =>
 k118 .ret [(0, (lookQ L115 0)), (2, (lookQ L115 2)), (3, v128), (4, (lookQ L115 4)), (5, (lookQ L115 5)), (6, (lookQ L115 6)), (7, (lookQ L115 7)), (8, (lookQ L115 8)), (9, (lookQ L115 9)), (10, (lookQ L115 10)), (11, (lookQ L115 11)), (12, (lookQ L115 12)), (14, v122), (15, v128), (17, (lookQ L115 17)), (24, (lookQ L115 24)), (33, (lookQ L115 33)), (51, (lookQ L115 51)), (73, (lookQ L115 73)), (76, (lookQ L115 76)), (77, (lookQ L115 77)), (78, (lookQ L115 78)), (79, v119), (85, v132), (99, (lookQ L115 99))] H134 e136) (escQ f135 e131)) (
 I.bin .add 3 true (lookQ L115 78) (.int .i64 1) fun v137 =>
 k118 .normal [(0, (lookQ L115 0)), (2, (lookQ L115 2)), (3, (lookQ L115 3)), (4, (lookQ L115 4)), (5, (lookQ L115 5)), (6, (lookQ L115 6)), (7, (lookQ L115 7)), (8, (lookQ L115 8)), (9, (lookQ L115 9)), (10, (lookQ L115 10)), (11, (lookQ L115 11)), (12, (lookQ L115 12)), (14, v122), (15, v128), (17, (lookQ L115 17)), (24, (lookQ L115 24)), (33, (lookQ L115 33)), (51, (lookQ L115 51)), (73, (lookQ L115 73)), (76, (lookQ L115 76)), (77, (lookQ L115 77)), (78, v137), (79, v119), (85, v132), (99, (lookQ L115 99))] H129 e131)) (escQ f130 e126)) (escQ f125 e117)) (
 k118 (.exit 0) [(0, (lookQ L115 0)), (2, (lookQ L115 2)), (3, (lookQ L115 3)), (4, (lookQ L115 4)), (5, (lookQ L115 5)), (6, (lookQ L115 6)), (7, (lookQ L115 7)), (8, (lookQ L115 8)), (9, (lookQ L115 9)), (10, (lookQ L115 10)), (11, (lookQ L115 11)), (12, (lookQ L115 12)), (14, (lookQ L115 14)), (15, (lookQ L115 15)), (17, (lookQ L115 17)), (24, (lookQ L115 24)), (33, (lookQ L115 33)), (51, (lookQ L115 51)), (73, (lookQ L115 73)), (76, (lookQ L115 76)), (77, (lookQ L115 77)), (78, (lookQ L115 78)), (79, v119), (85, (lookQ L115 85)), (99, (lookQ L115 99))] H116 e117)) fuel L113 H114 e101 (selK I.bot [(0, (fun L138 H139 e140 =>
 I.load 30 H139 (lookQ L138 12) fun v141 =>
 I.fa 32 3 (lookQ L138 6) fun v142 =>
 I.store n0 30 H139 v142 v141 fun H143 f144 => (fun e145 =>
 I.load 32 H143 (lookQ L138 6) fun v146 =>
 I.load 30 H143 (lookQ L138 12) fun v147 =>
 KK 155 [(lookQ L138 0), v146, v147] H143 fun v148 H149 f150 => (fun e151 =>
 I.ext v148 0 fun v152 =>
 I.ext v148 1 fun v153 =>
 I.bin .neq 137 true v153 .nili fun v154 =>
 I.cond v154 (
 I.build 32 [] fun v155 =>
 KK 86 [v153, (.str ⟨#[101, 110, 100]⟩)] H149 fun v156 H157 f158 => (fun e159 =>
 I.store n0 32 H157 (lookQ L138 2) v155 fun H160 f161 => (fun e162 =>
 I.load 32 H160 (lookQ L138 2) fun v163 =>
 I.fin n0 H160 e162 [v163, v156] k) (escQ f161 e159)) (escQ f158 e151)) (
 I.load 32 H149 (lookQ L138 6) fun v164 =>
 I.store n0 32 H149 (lookQ L138 2) v164 fun H165 f166 => (fun e167 =>
 I.load 32 H165 (lookQ L138 2) fun v168 =>
 I.fin n0 H165 e167 [v168, .nili] k) (escQ f166 e151))) (escQ f150 e145)) (escQ f144 e140)))] (fun L169 H170 e171 =>
 I.load 32 H170 (lookQ L169 2) fun v172 =>
 I.fin n0 H170 e171 [v172, (lookQ L169 3)] k)))) (escQ f100 e93)) (escQ f92 e85))) (escQ f84 e81)) (escQ f80 e77)) (escQ f76 e57))) (escQ f56 e51)) (escQ f50 e33))) (escQ f32 e29)) (escQ f28 e12))) (escQ f11 e5)) (escQ f4 false)) (lenQ H)
  | _ => I.bot⟩
theorem ok71 (R : Type) : TxtOk Tryz.prog U ann 71 (r71 R) := fun I fuel KO KK args H k => match args with
  | [] => .inl rfl
  | [a0] => .inr (by kernel_rfl)
  | _ :: _ :: _ => .inl rfl
/-- silt/plan.Good -/
noncomputable def r73 (R : Type) : Bx (Txt R) := ⟨fun I fuel KO KK args H k => match args with
  | [a0] => (fun n0 =>
 I.box a0 H fun v0 H1 =>
 I.fa 24 0 v0 fun v2 =>
 I.load 3 H1 v2 fun v3 =>
 I.bin .geq 3 true v3 (.int .i64 1) fun v4 =>
 I.gd v4 true (fun K5 => I.fa 24 0 v0 fun v9 =>
 K5 v9 H1 false) H1 false fun v6 H7 e8 =>
 I.gd v4 true (fun K10 => I.load 3 H7 v6 fun v14 =>
 K10 v14 H7 e8) H7 e8 fun v11 H12 e13 =>
 I.gd v4 true (fun K15 => I.bin .leq 3 true v11 (.int .i64 64) fun v19 =>
 K15 v19 H12 e13) H12 e13 fun v16 H17 e18 =>
 I.pick v4 v16 (.bool false) fun v20 =>
 I.gd v20 true (fun K21 => I.fa 24 1 v0 fun v25 =>
 K21 v25 H17 e18) H17 e18 fun v22 H23 e24 =>
 I.gd v20 true (fun K26 => I.load 3 H23 v22 fun v30 =>
 K26 v30 H23 e24) H23 e24 fun v27 H28 e29 =>
 I.gd v20 true (fun K31 => I.bin .geq 3 true v27 (.int .i64 6) fun v35 =>
 K31 v35 H28 e29) H28 e29 fun v32 H33 e34 =>
 I.pick v20 v32 (.bool false) fun v36 =>
 I.gd v36 true (fun K37 => I.fa 24 1 v0 fun v41 =>
 K37 v41 H33 e34) H33 e34 fun v38 H39 e40 =>
 I.gd v36 true (fun K42 => I.load 3 H39 v38 fun v46 =>
 K42 v46 H39 e40) H39 e40 fun v43 H44 e45 =>
 I.gd v36 true (fun K47 => I.bin .leq 3 true v43 (.int .i64 16) fun v51 =>
 K47 v51 H44 e45) H44 e45 fun v48 H49 e50 =>
 I.pick v36 v48 (.bool false) fun v52 =>
 I.gd v52 true (fun K53 => I.fa 24 2 v0 fun v57 =>
 K53 v57 H49 e50) H49 e50 fun v54 H55 e56 =>
 I.gd v52 true (fun K58 => I.load 3 H55 v54 fun v62 =>
 K58 v62 H55 e56) H55 e56 fun v59 H60 e61 =>
 I.gd v52 true (fun K63 => I.bin .geq 3 true v59 (.int .i64 24) fun v67 =>
 K63 v67 H60 e61) H60 e61 fun v64 H65 e66 =>
 I.pick v52 v64 (.bool false) fun v68 =>
 I.gd v68 true (fun K69 => I.fa 24 2 v0 fun v73 =>
 K69 v73 H65 e66) H65 e66 fun v70 H71 e72 =>
 I.gd v68 true (fun K74 => I.load 3 H71 v70 fun v78 =>
 K74 v78 H71 e72) H71 e72 fun v75 H76 e77 =>
 I.gd v68 true (fun K79 => I.bin .leq 3 true v75 (.int .i64 32) fun v83 =>
 K79 v83 H76 e77) H76 e77 fun v80 H81 e82 =>
 I.pick v68 v80 (.bool false) fun v84 =>
 I.gd v84 true (fun K85 => I.fa 24 3 v0 fun v89 =>
 K85 v89 H81 e82) H81 e82 fun v86 H87 e88 =>
 I.gd v84 true (fun K90 => I.load 3 H87 v86 fun v94 =>
 K90 v94 H87 e88) H87 e88 fun v91 H92 e93 =>
 I.gd v84 true (fun K95 => I.bin .geq 3 true v91 (.int .i64 2) fun v99 =>
 K95 v99 H92 e93) H92 e93 fun v96 H97 e98 =>
 I.pick v84 v96 (.bool false) fun v100 =>
 I.gd v100 true (fun K101 => I.fa 24 3 v0 fun v105 =>
 K101 v105 H97 e98) H97 e98 fun v102 H103 e104 =>
 I.gd v100 true (fun K106 => I.load 3 H103 v102 fun v110 =>
 K106 v110 H103 e104) H103 e104 fun v107 H108 e109 =>
 I.gd v100 true (fun K111 => I.bin .leq 3 true v107 (.int .i64 16) fun v115 =>
 K111 v115 H108 e109) H108 e109 fun v112 H113 e114 =>
 I.pick v100 v112 (.bool false) fun v116 =>
 I.fin n0 H113 e114 [v116] k) (lenQ H)
  | _ => I.bot⟩
theorem ok73 (R : Type) : TxtOk Tryz.prog U ann 73 (r73 R) := fun I fuel KO KK args H k => match args with
  | [] => .inl rfl
  | [a0] => .inr (by kernel_rfl)
  | _ :: _ :: _ => .inl rfl
/-- (*silt/dev.Dev).Len -/
noncomputable def r74 (R : Type) : Bx (Txt R) := ⟨fun I fuel KO KK args H k => match args with
  | [a0] => (fun n0 =>
 KK 162 [a0, (.int .i64 0)] H fun v0 H1 f2 => (fun e3 =>
 I.fin n0 H1 e3 [v0] k) (escQ f2 false)) (lenQ H)
  | _ => I.bot⟩
theorem ok74 (R : Type) : TxtOk Tryz.prog U ann 74 (r74 R) := fun I fuel KO KK args H k => match args with
  | [] => .inl rfl
  | [a0] => .inr (by kernel_rfl)
  | _ :: _ :: _ => .inl rfl
/-- silt/plan.Total -/
noncomputable def r75 (R : Type) : Bx (Txt R) := ⟨fun I fuel KO KK args H k => match args with
  | [a0] => (fun n0 =>
 I.box a0 H fun v0 H1 =>
 I.load 24 H1 v0 fun v2 =>
 KK 73 [v2] H1 fun v3 H4 f5 => (fun e6 =>
 I.un .not v3 fun v7 =>
 I.cond v7 (
 I.fin n0 H4 e6 [(.int .i64 0)] k) (
 I.fa 24 1 v0 fun v8 =>
 I.load 3 H4 v8 fun v9 =>
 I.fa 24 2 v0 fun v10 =>
 I.load 3 H4 v10 fun v11 =>
 I.bin .mul 3 false v9 v11 fun v12 =>
 I.bin .add 3 true (.int .i64 4) v12 fun v13 =>
 I.fin n0 H4 e6 [v13] k)) (escQ f5 false)) (lenQ H)
  | _ => I.bot⟩
theorem ok75 (R : Type) : TxtOk Tryz.prog U ann 75 (r75 R) := fun I fuel KO KK args H k => match args with
  | [] => .inl rfl
  | [a0] => .inr (by kernel_rfl)
  | _ :: _ :: _ => .inl rfl
/-- silt/anchor.Write -/
noncomputable def r77 (R : Type) : Bx (Txt R) := ⟨fun I fuel KO KK args H k => match args with
  | [a0, a1] => (fun n0 =>
 I.box a1 H fun v0 H1 =>
 I.load 27 H1 v0 fun v2 =>
 KK 165 [v2] H1 fun v3 H4 f5 => (fun e6 =>
 I.ext v3 0 fun v7 =>
 I.ext v3 1 fun v8 =>
 I.alloc 270 H4 fun v9 H10 =>
 I.store n0 270 H10 v9 v7 fun H11 f12 => (fun e13 =>
 I.bin .neq 33 true v8 (.int .i64 0) fun v14 =>
 I.gd v14 false (fun K15 => K15 a0 H11 e13) H11 e13 fun v16 H17 e18 =>
 I.gd v14 false (fun K19 => I.fa 27 1 v0 fun v23 =>
 K19 v23 H17 e18) H17 e18 fun v20 H21 e22 =>
 I.gd v14 false (fun K24 => I.load 24 H21 v20 fun v28 =>
 K24 v28 H21 e22) H21 e22 fun v25 H26 e27 =>
 I.gd v14 false (fun K29 => KK 74 [v16] H26 fun v33 H34 f35 => (fun e36 =>
 K29 v33 H34 e36) (escQ f35 e27)) H26 e27 fun v30 H31 e32 =>
 I.gd v14 false (fun K37 => KK 75 [v25] H31 fun v41 H42 f43 => (fun e44 =>
 K37 v41 H42 e44) (escQ f43 e32)) H31 e32 fun v38 H39 e40 =>
 I.gd v14 false (fun K45 => I.bin .lss 3 false v30 v38 fun v49 =>
 K45 v49 H39 e40) H39 e40 fun v46 H47 e48 =>
 I.pick v14 (.bool true) v46 fun v50 =>
 I.cg v14 false (fun r51 => I.load 24 H31 v20 fun v52 =>
 I.same v52 v25 (
 r51)) (
 I.cond v50 (
 I.fin n0 H47 e48 [(.int .i64 1)] k) (
 I.fa 27 0 v0 fun v53 =>
 I.load 22 H47 v53 fun v54 =>
 I.bin .rem 22 true v54 (.int .u32 2) fun v55 =>
 I.conv 22 3 v55 H47 fun v56 H57 =>
 I.bin .mul 3 true (.int .i64 2) v56 fun v58 =>
 I.load 270 H57 v9 fun v59 =>
 I.head n0 6442451073 [(0, a0), (1, a1), (3, v0), (4, (.int .i64 0)), (5, v9), (6, v8), (7, v58), (8, .bad), (9, .bad), (10, .bad), (25, v50), (31, v59), (32, (.int .i64 0)), (33, .bad), (43, .bad)] H57 e48 fun L60 H61 => loopM I n0 6442451073 (fun L62 H63 e64 k65 =>
 I.bin .lss 3 true (lookQ L62 32) (.int .i64 2) fun v66 =>
 I.cond v66 (
 I.idx 270 (lookQ L62 31) (lookQ L62 32) fun v67 =>
 I.alloc 269 H63 fun v68 H69 =>
 I.store n0 269 H69 v68 v67 fun H70 f71 => (fun e72 =>
 I.bin .add 3 false (lookQ L62 7) (lookQ L62 32) fun v73 =>
 I.load 269 H70 v68 fun v74 =>
 KK 166 [(lookQ L62 0), v73, v74] H70 fun v75 H76 f77 => (fun e78 =>
 I.bin .neq 33 true v75 (.int .i64 0) fun v79 =>
 I.cond v79 (
 k65 .ret [(0, (lookQ L62 0)), (1, (lookQ L62 1)), (3, (lookQ L62 3)), (4, v75), (5, (lookQ L62 5)), (6, (lookQ L62 6)), (7, (lookQ L62 7)), (8, (lookQ L62 32)), (9, v68), (10, v75), (25, (lookQ L62 25)), (31, (lookQ L62 31)), (32, (lookQ L62 32)), (33, v66), (43, v79)] H76 e78) (
 I.bin .add 3 true (lookQ L62 32) (.int .i64 1) fun v80 =>
 k65 .normal [(0, (lookQ L62 0)), (1, (lookQ L62 1)), (3, (lookQ L62 3)), (4, (lookQ L62 4)), (5, (lookQ L62 5)), (6, (lookQ L62 6)), (7, (lookQ L62 7)), (8, (lookQ L62 32)), (9, v68), (10, v75), (25, (lookQ L62 25)), (31, (lookQ L62 31)), (32, v80), (33, v66), (43, v79)] H76 e78)) (escQ f77 e72)) (escQ f71 e64)) (
 k65 (.exit 0) [(0, (lookQ L62 0)), (1, (lookQ L62 1)), (3, (lookQ L62 3)), (4, (lookQ L62 4)), (5, (lookQ L62 5)), (6, (lookQ L62 6)), (7, (lookQ L62 7)), (8, (lookQ L62 8)), (9, (lookQ L62 9)), (10, (lookQ L62 10)), (25, (lookQ L62 25)), (31, (lookQ L62 31)), (32, (lookQ L62 32)), (33, v66), (43, (lookQ L62 43))] H63 e64)) fuel L60 H61 e48 (selK I.bot [(0, (fun L81 H82 e83 =>
 KK 167 [(lookQ L81 0)] H82 fun v84 H85 f86 => (fun e87 =>
 I.fin n0 H85 e87 [v84] k) (escQ f86 e83)))] (fun L88 H89 e90 =>
 I.fin n0 H89 e90 [(lookQ L88 4)] k))))) (escQ f12 e6)) (escQ f5 false)) (lenQ H)
  | _ => I.bot⟩
theorem ok77 (R : Type) : TxtOk Tryz.prog U ann 77 (r77 R) := fun I fuel KO KK args H k => match args with
  | [] => .inl rfl
  | [_] => .inl rfl
  | [a0, a1] => .inr (by kernel_rfl)
  | _ :: _ :: _ :: _ => .inl rfl
/-- silt/recover.Places -/
noncomputable def r81 (R : Type) : Bx (Txt R) := ⟨fun I fuel KO KK args H k => match args with
  | [a0, a1] => (fun n0 =>
 I.box a1 H fun v0 H1 =>
 I.fa 32 1 v0 fun v2 =>
 I.load 28 H1 v2 fun v3 =>
 I.len v3 fun v4 =>
 I.head n0 114761 [(0, a0), (1, a1), (3, v0), (4, .nils), (5, (.int .i64 0)), (6, .nils), (7, .bad), (8, .bad), (9, .bad), (10, .bad), (12, .bad), (14, v3), (15, v4), (16, (.int .i64 0)), (17, .bad), (36, .bad), (45, .bad), (46, .bad), (47, .bad), (50, .bad)] H1 false fun L5 H6 => loopM I n0 114761 (fun L7 H8 e9 k10 =>
 I.bin .lss 3 false (lookQ L7 16) (lookQ L7 15) fun v11 =>
 I.cond v11 (
 I.ia 28 (lookQ L7 14) (lookQ L7 16) fun v12 =>
 I.load 3 H8 v12 fun v13 =>
 I.fa 32 0 (lookQ L7 3) fun v14 =>
 I.fa 27 1 v14 fun v15 =>
 I.load 24 H8 v15 fun v16 =>
 KK 12 [(lookQ L7 0), v16, (lookQ L7 16), v13] H8 fun v17 H18 f19 => (fun e20 =>
 I.ext v17 0 fun v21 =>
 I.ext v17 1 fun v22 =>
 I.alloc 42 H18 fun v23 H24 =>
 I.store n0 42 H24 v23 v21 fun H25 f26 => (fun e27 =>
 I.bin .neq 33 true v22 (.int .i64 0) fun v28 =>
 I.gd v28 true (fun K29 => K29 v22 H25 e27) H25 e27 fun v30 H31 e32 =>
 I.gd v28 true (fun K33 => I.bin .neq 33 true v30 (.int .i64 17) fun v37 =>
 K33 v37 H31 e32) H31 e32 fun v34 H35 e36 =>
 I.pick v28 v34 (.bool false) fun v38 =>
 I.cond v38 (
 k10 .ret [(0, (lookQ L7 0)), (1, (lookQ L7 1)), (3, (lookQ L7 3)), (4, .nils), (5, v22), (6, (lookQ L7 6)), (7, (lookQ L7 16)), (8, v13), (9, v23), (10, v22), (12, (lookQ L7 12)), (14, (lookQ L7 14)), (15, (lookQ L7 15)), (16, (lookQ L7 16)), (17, v11), (36, v38), (45, (lookQ L7 45)), (46, (lookQ L7 46)), (47, (lookQ L7 47)), (50, (lookQ L7 50))] H35 e36) (
 I.fa 42 0 v23 fun v39 =>
 I.load 28 H35 v39 fun v40 =>
 I.blt true .append #[28, 28] n0 [(lookQ L7 6), v40] H35 fun v41 H42 f43 => (fun e44 =>
 I.bin .add 3 true (lookQ L7 16) (.int .i64 1) fun v45 =>
 k10 .normal [(0, (lookQ L7 0)), (1, (lookQ L7 1)), (3, (lookQ L7 3)), (4, (lookQ L7 4)), (5, (lookQ L7 5)), (6, v41), (7, (lookQ L7 16)), (8, v13), (9, v23), (10, v22), (12, (lookQ L7 12)), (14, (lookQ L7 14)), (15, (lookQ L7 15)), (16, v45), (17, v11), (36, v38), (45, (lookQ L7 45)), (46, (lookQ L7 46)), (47, (lookQ L7 47)), (50, (lookQ L7 50))] H42 e44) (escQ f43 e36))) (escQ f26 e20)) (escQ f19 e9)) (
 k10 (.exit 0) [(0, (lookQ L7 0)), (1, (lookQ L7 1)), (3, (lookQ L7 3)), (4, (lookQ L7 4)), (5, (lookQ L7 5)), (6, (lookQ L7 6)), (7, (lookQ L7 7)), (8, (lookQ L7 8)), (9, (lookQ L7 9)), (10, (lookQ L7 10)), (12, (lookQ L7 12)), (14, (lookQ L7 14)), (15, (lookQ L7 15)), (16, (lookQ L7 16)), (17, v11), (36, (lookQ L7 36)), (45, (lookQ L7 45)), (46, (lookQ L7 46)), (47, (lookQ L7 47)), (50, (lookQ L7 50))] H8 e9)) fuel L5 H6 false (selK I.bot [(0, (fun L46 H47 e48 =>
 I.fa 32 0 (lookQ L46 3) fun v49 =>
 I.fa 27 5 v49 fun v50 =>
 I.load 25 H47 v50 fun v51 =>
 I.head n0 105553116266560 [(0, (lookQ L46 0)), (1, (lookQ L46 1)), (3, (lookQ L46 3)), (4, (lookQ L46 4)), (5, (lookQ L46 5)), (6, (lookQ L46 6)), (7, (lookQ L46 7)), (8, (lookQ L46 8)), (9, (lookQ L46 9)), (10, (lookQ L46 10)), (12, (lookQ L46 12)), (14, (lookQ L46 14)), (15, (lookQ L46 15)), (16, (lookQ L46 16)), (17, (lookQ L46 17)), (36, (lookQ L46 36)), (45, v51), (46, (.int .i64 0)), (47, (lookQ L46 47)), (50, (lookQ L46 50))] H47 e48 fun L52 H53 => loopM I n0 105553116266560 (fun L54 H55 e56 k57 =>
 I.bin .lss 3 true (lookQ L54 46) (.int .i64 8) fun v58 =>
 I.cond v58 (
 I.join (fun L59 H60 e61 =>
 I.bin .add 3 true (lookQ L59 46) (.int .i64 1) fun v62 =>
 k57 .normal [(0, (lookQ L59 0)), (1, (lookQ L59 1)), (3, (lookQ L59 3)), (4, (lookQ L59 4)), (5, (lookQ L59 5)), (6, (lookQ L59 6)), (7, (lookQ L59 7)), (8, (lookQ L59 8)), (9, (lookQ L59 9)), (10, (lookQ L59 10)), (12, (lookQ L59 12)), (14, (lookQ L59 14)), (15, (lookQ L59 15)), (16, (lookQ L59 16)), (17, (lookQ L59 17)), (36, (lookQ L59 36)), (45, (lookQ L59 45)), (46, v62), (47, (lookQ L59 47)), (50, (lookQ L59 50))] H60 e61) fun j63 =>
 I.idx 25 (lookQ L54 45) (lookQ L54 46) fun v64 =>
 I.bin .neq 3 true v64 (.int .i64 0) fun v65 =>
 I.cond v65 (
 I.bslice 28 1 [(0, v64)] H55 fun v66 H67 =>
 I.blt true .append #[28, 28] n0 [(lookQ L54 6), v66] H67 fun v68 H69 f70 => (fun e71 =>
 j63 [(0, (lookQ L54 0)), (1, (lookQ L54 1)), (3, (lookQ L54 3)), (4, (lookQ L54 4)), (5, (lookQ L54 5)), (6, v68), (7, (lookQ L54 7)), (8, (lookQ L54 8)), (9, (lookQ L54 9)), (10, (lookQ L54 10)), (12, v64), (14, (lookQ L54 14)), (15, (lookQ L54 15)), (16, (lookQ L54 16)), (17, (lookQ L54 17)), (36, (lookQ L54 36)), (45, (lookQ L54 45)), (46, (lookQ L54 46)), (47, v58), (50, v65)] H69 e71) (escQ f70 e56)) (
 j63 [(0, (lookQ L54 0)), (1, (lookQ L54 1)), (3, (lookQ L54 3)), (4, (lookQ L54 4)), (5, (lookQ L54 5)), (6, (lookQ L54 6)), (7, (lookQ L54 7)), (8, (lookQ L54 8)), (9, (lookQ L54 9)), (10, (lookQ L54 10)), (12, v64), (14, (lookQ L54 14)), (15, (lookQ L54 15)), (16, (lookQ L54 16)), (17, (lookQ L54 17)), (36, (lookQ L54 36)), (45, (lookQ L54 45)), (46, (lookQ L54 46)), (47, v58), (50, v65)] H55 e56)) (
 k57 (.exit 2) [(0, (lookQ L54 0)), (1, (lookQ L54 1)), (3, (lookQ L54 3)), (4, (lookQ L54 4)), (5, (lookQ L54 5)), (6, (lookQ L54 6)), (7, (lookQ L54 7)), (8, (lookQ L54 8)), (9, (lookQ L54 9)), (10, (lookQ L54 10)), (12, (lookQ L54 12)), (14, (lookQ L54 14)), (15, (lookQ L54 15)), (16, (lookQ L54 16)), (17, (lookQ L54 17)), (36, (lookQ L54 36)), (45, (lookQ L54 45)), (46, (lookQ L54 46)), (47, v58), (50, (lookQ L54 50))] H55 e56)) fuel L52 H53 e48 (selK I.bot [(2, (fun L72 H73 e74 =>
 I.fin n0 H73 e74 [(lookQ L72 6), (.int .i64 0)] k))] (fun _ _ _ => I.bot))))] (fun L75 H76 e77 =>
 I.fin n0 H76 e77 [(lookQ L75 4), (lookQ L75 5)] k))) (lenQ H)
  | _ => I.bot⟩
theorem ok81 (R : Type) : TxtOk Tryz.prog U ann 81 (r81 R) := fun I fuel KO KK args H k => match args with
  | [] => .inl rfl
  | [_] => .inl rfl
  | [a0, a1] => .inr (by kernel_rfl)
  | _ :: _ :: _ :: _ => .inl rfl
/-- silt/core.wipe -/
noncomputable def r87 (R : Type) : Bx (Txt R) := ⟨fun I fuel KO KK args H k => match args with
  | [a0, a1] => (fun n0 =>
 I.head n0 385 [(0, a0), (1, a1), (4, .nili), (5, .bad), (6, .bad), (7, a1), (8, (.int .i64 0)), (9, .bad), (16, .bad)] H false fun L0 H1 => loopM I n0 385 (fun L2 H3 e4 k5 =>
 I.bin .lss 3 false (lookQ L2 8) (lookQ L2 7) fun v6 =>
 I.cond v6 (
 I.build 269 [] fun v7 =>
 KK 166 [(lookQ L2 0), (lookQ L2 8), v7] H3 fun v8 H9 f10 => (fun e11 =>
 I.bin .neq 33 true v8 (.int .i64 0) fun v12 =>
 I.cond v12 (
 KK 153 [v8, (.str ⟨#[119, 105, 112, 101]⟩)] H9 fun v13 H14 f15 => (fun e16 =>
 k5 .ret [(0, (lookQ L2 0)), (1, (lookQ L2 1)), (4, v13), (5, (lookQ L2 8)), (6, v8), (7, (lookQ L2 7)), (8, (lookQ L2 8)), (9, v6), (16, v12)] H14 e16) (escQ f15 e11)) (
 I.bin .add 3 true (lookQ L2 8) (.int .i64 1) fun v17 =>
 k5 .normal [(0, (lookQ L2 0)), (1, (lookQ L2 1)), (4, (lookQ L2 4)), (5, (lookQ L2 8)), (6, v8), (7, (lookQ L2 7)), (8, v17), (9, v6), (16, v12)] H9 e11)) (escQ f10 e4)) (
 k5 (.exit 0) [(0, (lookQ L2 0)), (1, (lookQ L2 1)), (4, (lookQ L2 4)), (5, (lookQ L2 5)), (6, (lookQ L2 6)), (7, (lookQ L2 7)), (8, (lookQ L2 8)), (9, v6), (16, (lookQ L2 16))] H3 e4)) fuel L0 H1 false (selK I.bot [(0, (fun L18 H19 e20 =>
 KK 167 [(lookQ L18 0)] H19 fun v21 H22 f23 => (fun e24 =>
 KK 153 [v21, (.str ⟨#[119, 105, 112, 101]⟩)] H22 fun v25 H26 f27 => (fun e28 =>
 I.fin n0 H26 e28 [v25] k) (escQ f27 e24)) (escQ f23 e20)))] (fun L29 H30 e31 =>
 I.fin n0 H30 e31 [(lookQ L29 4)] k))) (lenQ H)
  | _ => I.bot⟩
theorem ok87 (R : Type) : TxtOk Tryz.prog U ann 87 (r87 R) := fun I fuel KO KK args H k => match args with
  | [] => .inl rfl
  | [_] => .inl rfl
  | [a0, a1] => .inr (by kernel_rfl)
  | _ :: _ :: _ :: _ => .inl rfl
/-- silt/core.greatest -/
noncomputable def r88 (R : Type) : Bx (Txt R) := ⟨fun I fuel KO KK args H k => match args with
  | [a0, a1] => (fun n0 =>
 I.box a1 H fun v0 H1 =>
 I.load 24 H1 v0 fun v2 =>
 KK 171 [v2, (.int .i64 0)] H1 fun v3 H4 f5 => (fun e6 =>
 I.head n0 105 [(0, a0), (1, a1), (3, v0), (4, (.int .u32 0)), (5, (.int .u32 0)), (6, v3), (7, .bad), (10, .bad), (11, .bad), (12, .bad), (13, .bad), (19, .bad), (35, .bad), (45, .bad)] H4 e6 fun L7 H8 => loopM I n0 105 (fun L9 H10 e11 k12 =>
 I.load 24 H10 (lookQ L9 3) fun v13 =>
 KK 75 [v13] H10 fun v14 H15 f16 => (fun e17 =>
 I.bin .lss 3 false (lookQ L9 6) v14 fun v18 =>
 I.cond v18 (
 I.join (fun L19 H20 e21 =>
 I.bin .add 3 true (lookQ L19 6) (.int .i64 1) fun v22 =>
 k12 .normal [(0, (lookQ L19 0)), (1, (lookQ L19 1)), (3, (lookQ L19 3)), (4, (lookQ L19 4)), (5, (lookQ L19 5)), (6, v22), (7, (lookQ L19 7)), (10, (lookQ L19 10)), (11, (lookQ L19 11)), (12, (lookQ L19 12)), (13, (lookQ L19 13)), (19, (lookQ L19 19)), (35, (lookQ L19 35)), (45, (lookQ L19 45))] H20 e21) fun j23 =>
 KK 172 [(lookQ L9 0), (lookQ L9 6)] H15 fun v24 H25 f26 => (fun e27 =>
 I.ext v24 0 fun v28 =>
 I.ext v24 1 fun v29 =>
 I.alloc 269 H25 fun v30 H31 =>
 I.store n0 269 H31 v30 v28 fun H32 f33 => (fun e34 =>
 I.join (fun L35 H36 e37 =>
 I.load 269 H36 (lookQ L35 7) fun v38 =>
 KK 174 [v38] H36 fun v39 H40 f41 => (fun e42 =>
 I.ext v39 0 fun v43 =>
 I.ext v39 1 fun v44 =>
 I.alloc 290 H40 fun v45 H46 =>
 I.store n0 290 H46 v45 v43 fun H47 f48 => (fun e49 =>
 I.bin .eql 33 true v44 (.int .i64 0) fun v50 =>
 I.cond v50 (
 I.fa 290 0 v45 fun v51 =>
 I.load 22 H47 v51 fun v52 =>
 I.blt true .max #[22, 22] n0 [(lookQ L35 5), v52] H47 fun v53 H54 f55 => (fun e56 =>
 j23 [(0, (lookQ L35 0)), (1, (lookQ L35 1)), (3, (lookQ L35 3)), (4, (lookQ L35 4)), (5, v53), (6, (lookQ L35 6)), (7, (lookQ L35 7)), (10, (lookQ L35 10)), (11, (lookQ L35 11)), (12, v45), (13, v44), (19, (lookQ L35 19)), (35, (lookQ L35 35)), (45, v50)] H54 e56) (escQ f55 e49)) (
 j23 [(0, (lookQ L35 0)), (1, (lookQ L35 1)), (3, (lookQ L35 3)), (4, (lookQ L35 4)), (5, (lookQ L35 5)), (6, (lookQ L35 6)), (7, (lookQ L35 7)), (10, (lookQ L35 10)), (11, (lookQ L35 11)), (12, v45), (13, v44), (19, (lookQ L35 19)), (35, (lookQ L35 35)), (45, v50)] H47 e49)) (escQ f48 e42)) (escQ f41 e37)) fun j57 =>
 I.load 269 H32 v30 fun v58 =>
 KK 173 [v58] H32 fun v59 H60 f61 => (fun e62 =>
 I.ext v59 0 fun v63 =>
 I.ext v59 1 fun v64 =>
 I.ext v59 2 fun v65 =>
 I.alloc 158 H60 fun v66 H67 =>
 I.store n0 158 H67 v66 v63 fun H68 f69 => (fun e70 =>
 I.bin .eql 33 true v65 (.int .i64 0) fun v71 =>
 I.cond v71 (
 I.blt true .max #[22, 22] n0 [(lookQ L9 5), v64] H68 fun v72 H73 f74 => (fun e75 =>
 j57 [(0, (lookQ L9 0)), (1, (lookQ L9 1)), (3, (lookQ L9 3)), (4, (lookQ L9 4)), (5, v72), (6, (lookQ L9 6)), (7, v30), (10, v64), (11, v65), (12, (lookQ L9 12)), (13, (lookQ L9 13)), (19, v18), (35, v71), (45, (lookQ L9 45))] H73 e75) (escQ f74 e70)) (
 j57 [(0, (lookQ L9 0)), (1, (lookQ L9 1)), (3, (lookQ L9 3)), (4, (lookQ L9 4)), (5, (lookQ L9 5)), (6, (lookQ L9 6)), (7, v30), (10, v64), (11, v65), (12, (lookQ L9 12)), (13, (lookQ L9 13)), (19, v18), (35, v71), (45, (lookQ L9 45))] H68 e70)) (escQ f69 e62)) (escQ f61 e34)) (escQ f33 e27)) (escQ f26 e17)) (
 k12 (.exit 0) [(0, (lookQ L9 0)), (1, (lookQ L9 1)), (3, (lookQ L9 3)), (4, (lookQ L9 4)), (5, (lookQ L9 5)), (6, (lookQ L9 6)), (7, (lookQ L9 7)), (10, (lookQ L9 10)), (11, (lookQ L9 11)), (12, (lookQ L9 12)), (13, (lookQ L9 13)), (19, v18), (35, (lookQ L9 35)), (45, (lookQ L9 45))] H15 e17)) (escQ f16 e11)) fuel L7 H8 e6 (selK I.bot [(0, (fun L76 H77 e78 =>
 I.fin n0 H77 e78 [(lookQ L76 5)] k))] (fun _ _ _ => I.bot))) (escQ f5 false)) (lenQ H)
  | _ => I.bot⟩
theorem ok88 (R : Type) : TxtOk Tryz.prog U ann 88 (r88 R) := fun I fuel KO KK args H k => match args with
  | [] => .inl rfl
  | [_] => .inl rfl
  | [a0, a1] => .inr (by kernel_rfl)
  | _ :: _ :: _ :: _ => .inl rfl
/-- (*silt/core.Core).checkpoint -/
noncomputable def r89 (R : Type) : Bx (Txt R) := ⟨fun I fuel KO KK args H k => match args with
  | [a0, a1] => (fun n0 =>
 I.nil a0 fun v0 =>
 I.fa 173 1 v0 fun v1 =>
 I.fa 32 0 v1 fun v2 =>
 I.fa 27 1 v2 fun v3 =>
 I.load 24 H v3 fun v4 =>
 I.nil a0 fun v5 =>
 I.fa 173 1 v5 fun v6 =>
 I.fa 32 1 v6 fun v7 =>
 I.load 28 H v7 fun v8 =>
 KK 175 [v4, v8] H fun v9 H10 f11 => (fun e12 =>
 I.ext v9 0 fun v13 =>
 I.ext v9 1 fun v14 =>
 I.bin .neq 33 true v14 (.int .i64 0) fun v15 =>
 I.cond v15 (
 I.fin n0 H10 e12 [v14] k) (
 KK 176 [a0, a1] H10 fun v16 H17 f18 => (fun e19 =>
 I.len v16 fun v20 =>
 I.head n0 240518168993 [(0, a0), (1, a1), (4, (.int .i64 0)), (5, v13), (6, v14), (7, .nils), (8, v16), (10, .bad), (11, .bad), (12, .bad), (13, .bad), (30, v15), (35, v16), (36, v20), (37, (.int .i64 0)), (38, .bad), (59, .bad), (61, .bad), (62, .bad), (63, .bad), (64, .bad)] H17 e19 fun L21 H22 => loopM I n0 240518168993 (fun L23 H24 e25 k26 =>
 I.bin .lss 3 false (lookQ L23 37) (lookQ L23 36) fun v27 =>
 I.cond v27 (
 I.ia 28 (lookQ L23 35) (lookQ L23 37) fun v28 =>
 I.load 3 H24 v28 fun v29 =>
 I.build 156 [(0, (.int .i64 3)), (1, v29)] fun v30 =>
 I.ia 264 (lookQ L23 5) v29 fun v31 =>
 I.load 158 H24 v31 fun v32 =>
 I.build 160 [(0, v30), (1, v32)] fun v33 =>
 I.bslice 162 1 [(0, v33)] H24 fun v34 H35 =>
 I.blt true .append #[162, 162] n0 [(lookQ L23 7), v34] H35 fun v36 H37 f38 => (fun e39 =>
 I.bin .add 3 true (lookQ L23 37) (.int .i64 1) fun v40 =>
 k26 .normal [(0, (lookQ L23 0)), (1, (lookQ L23 1)), (4, (lookQ L23 4)), (5, (lookQ L23 5)), (6, (lookQ L23 6)), (7, v36), (8, (lookQ L23 8)), (10, v29), (11, (lookQ L23 11)), (12, (lookQ L23 12)), (13, (lookQ L23 13)), (30, (lookQ L23 30)), (35, (lookQ L23 35)), (36, (lookQ L23 36)), (37, v40), (38, v27), (59, (lookQ L23 59)), (61, (lookQ L23 61)), (62, (lookQ L23 62)), (63, (lookQ L23 63)), (64, (lookQ L23 64))] H37 e39) (escQ f38 e25)) (
 k26 (.exit 0) [(0, (lookQ L23 0)), (1, (lookQ L23 1)), (4, (lookQ L23 4)), (5, (lookQ L23 5)), (6, (lookQ L23 6)), (7, (lookQ L23 7)), (8, (lookQ L23 8)), (10, (lookQ L23 10)), (11, (lookQ L23 11)), (12, (lookQ L23 12)), (13, (lookQ L23 13)), (30, (lookQ L23 30)), (35, (lookQ L23 35)), (36, (lookQ L23 36)), (37, (lookQ L23 37)), (38, v27), (59, (lookQ L23 59)), (61, (lookQ L23 61)), (62, (lookQ L23 62)), (63, (lookQ L23 63)), (64, (lookQ L23 64))] H24 e25)) fuel L21 H22 e19 (selK I.bot [(0, (fun L41 H42 e43 =>
 KK 177 [(lookQ L41 0), (lookQ L41 7)] H42 fun v44 H45 f46 => (fun e47 =>
 I.ext v44 0 fun v48 =>
 I.ext v44 1 fun v49 =>
 I.bin .neq 33 true v49 (.int .i64 0) fun v50 =>
 I.cond v50 (
 I.fin n0 H45 e47 [v49] k) (
 I.len (lookQ L41 8) fun v51 =>
 I.head n0 16140901064495859713 [(0, (lookQ L41 0)), (1, (lookQ L41 1)), (4, (lookQ L41 4)), (5, (lookQ L41 5)), (6, v49), (7, (lookQ L41 7)), (8, (lookQ L41 8)), (10, (lookQ L41 10)), (11, v48), (12, (lookQ L41 12)), (13, (lookQ L41 13)), (30, (lookQ L41 30)), (35, (lookQ L41 35)), (36, (lookQ L41 36)), (37, (lookQ L41 37)), (38, (lookQ L41 38)), (59, v50), (61, (lookQ L41 8)), (62, v51), (63, (.int .i64 0)), (64, (lookQ L41 64))] H45 e47 fun L52 H53 => loopM I n0 16140901064495859713 (fun L54 H55 e56 k57 =>
 I.bin .lss 3 false (lookQ L54 63) (lookQ L54 62) fun v58 =>
 I.cond v58 (
 I.ia 28 (lookQ L54 61) (lookQ L54 63) fun v59 =>
 I.load 3 H55 v59 fun v60 =>
 I.ia 28 (lookQ L54 11) (lookQ L54 63) fun v61 =>
 I.load 3 H55 v61 fun v62 =>
 I.nil (lookQ L54 0) fun v63 =>
 I.fa 173 1 v63 fun v64 =>
 I.fa 32 0 v64 fun v65 =>
 I.fa 27 5 v65 fun v66 =>
 I.ia 25 v66 v60 fun v67 =>
 I.store n0 3 H55 v67 v62 fun H68 f69 => (fun e70 =>
 I.bin .add 3 true (lookQ L54 63) (.int .i64 1) fun v71 =>
 k57 .normal [(0, (lookQ L54 0)), (1, (lookQ L54 1)), (4, (lookQ L54 4)), (5, (lookQ L54 5)), (6, (lookQ L54 6)), (7, (lookQ L54 7)), (8, (lookQ L54 8)), (10, (lookQ L54 10)), (11, (lookQ L54 11)), (12, (lookQ L54 63)), (13, v60), (30, (lookQ L54 30)), (35, (lookQ L54 35)), (36, (lookQ L54 36)), (37, (lookQ L54 37)), (38, (lookQ L54 38)), (59, (lookQ L54 59)), (61, (lookQ L54 61)), (62, (lookQ L54 62)), (63, v71), (64, v58)] H68 e70) (escQ f69 e56)) (
 k57 (.exit 2) [(0, (lookQ L54 0)), (1, (lookQ L54 1)), (4, (lookQ L54 4)), (5, (lookQ L54 5)), (6, (lookQ L54 6)), (7, (lookQ L54 7)), (8, (lookQ L54 8)), (10, (lookQ L54 10)), (11, (lookQ L54 11)), (12, (lookQ L54 12)), (13, (lookQ L54 13)), (30, (lookQ L54 30)), (35, (lookQ L54 35)), (36, (lookQ L54 36)), (37, (lookQ L54 37)), (38, (lookQ L54 38)), (59, (lookQ L54 59)), (61, (lookQ L54 61)), (62, (lookQ L54 62)), (63, (lookQ L54 63)), (64, v58)] H55 e56)) fuel L52 H53 e47 (selK I.bot [(2, (fun L72 H73 e74 =>
 I.nil (lookQ L72 0) fun v75 =>
 I.fa 173 1 v75 fun v76 =>
 I.fa 32 1 v76 fun v77 =>
 I.load 28 H73 v77 fun v78 =>
 KK 97 [v78] H73 fun v79 H80 f81 => (fun e82 =>
 I.nil (lookQ L72 0) fun v83 =>
 I.fa 173 1 v83 fun v84 =>
 I.fa 32 2 v84 fun v85 =>
 I.store n0 28 H80 v85 v79 fun H86 f87 => (fun e88 =>
 KK 178 [(lookQ L72 0)] H86 fun v89 H90 f91 => (fun e92 =>
 I.fin n0 H90 e92 [v89] k) (escQ f91 e88)) (escQ f87 e82)) (escQ f81 e74)))] (fun _ _ _ => I.bot)))) (escQ f46 e43)))] (fun _ _ _ => I.bot))) (escQ f18 e12))) (escQ f11 false)) (lenQ H)
  | _ => I.bot⟩
theorem ok89 (R : Type) : TxtOk Tryz.prog U ann 89 (r89 R) := fun I fuel KO KK args H k => match args with
  | [] => .inl rfl
  | [_] => .inl rfl
  | [a0, a1] => .inr (by kernel_rfl)
  | _ :: _ :: _ :: _ => .inl rfl
/-- (*silt/journal.Journal).At -/
noncomputable def r90 (R : Type) : Bx (Txt R) := ⟨fun I fuel KO KK args H k => match args with
  | [a0] => (fun n0 =>
 I.alloc 30 H fun v0 H1 =>
 I.bin .eql 150 true a0 .nilp fun v2 =>
 I.cond v2 (
 I.build 30 [] fun v3 =>
 I.store n0 30 H1 v0 v3 fun H4 f5 => (fun e6 =>
 I.load 30 H4 v0 fun v7 =>
 I.fin n0 H4 e6 [v7] k) (escQ f5 false)) (
 I.nil a0 fun v8 =>
 I.fa 276 2 v8 fun v9 =>
 I.load 30 H1 v9 fun v10 =>
 KK 169 [v10] H1 fun v11 H12 f13 => (fun e14 =>
 I.store n0 30 H12 v0 v11 fun H15 f16 => (fun e17 =>
 I.load 30 H15 v0 fun v18 =>
 I.fin n0 H15 e17 [v18] k) (escQ f16 e14)) (escQ f13 false))) (lenQ H)
  | _ => I.bot⟩
theorem ok90 (R : Type) : TxtOk Tryz.prog U ann 90 (r90 R) := fun I fuel KO KK args H k => match args with
  | [] => .inl rfl
  | [a0] => .inr (by kernel_rfl)
  | _ :: _ :: _ => .inl rfl
/-- silt/plan.Maps -/
noncomputable def r96 (R : Type) : Bx (Txt R) := ⟨fun I fuel KO KK args H k => match args with
  | [a0] => (fun n0 =>
 I.box a0 H fun v0 H1 =>
 I.load 24 H1 v0 fun v2 =>
 KK 73 [v2] H1 fun v3 H4 f5 => (fun e6 =>
 I.un .not v3 fun v7 =>
 I.cond v7 (
 I.fin n0 H4 e6 [(.int .i64 0)] k) (
 I.fa 24 0 v0 fun v8 =>
 I.load 3 H4 v8 fun v9 =>
 I.bin .sub 3 true v9 (.int .i64 1) fun v10 =>
 I.bin .quo 3 true v10 (.int .i64 8) fun v11 =>
 I.bin .add 3 true v11 (.int .i64 1) fun v12 =>
 I.fin n0 H4 e6 [v12] k)) (escQ f5 false)) (lenQ H)
  | _ => I.bot⟩
theorem ok96 (R : Type) : TxtOk Tryz.prog U ann 96 (r96 R) := fun I fuel KO KK args H k => match args with
  | [] => .inl rfl
  | [a0] => .inr (by kernel_rfl)
  | _ :: _ :: _ => .inl rfl
/-- slices.Clone[[]int,int] -/
noncomputable def r97 (R : Type) : Bx (Txt R) := ⟨fun I fuel KO KK args H k => match args with
  | [a0] => (fun n0 =>
 I.bin .eql 28 true a0 .nils fun v0 =>
 I.cond v0 (
 I.fin n0 H false [.nils] k) (
 I.bslice 28 0 [] H fun v1 H2 =>
 I.blt true .append #[28, 28] n0 [v1, a0] H2 fun v3 H4 f5 => (fun e6 =>
 I.fin n0 H4 e6 [v3] k) (escQ f5 false))) (lenQ H)
  | _ => I.bot⟩
theorem ok97 (R : Type) : TxtOk Tryz.prog U ann 97 (r97 R) := fun I fuel KO KK args H k => match args with
  | [] => .inl rfl
  | [a0] => .inr (by kernel_rfl)
  | _ :: _ :: _ => .inl rfl
/-- silt/plan.Cap -/
noncomputable def r109 (R : Type) : Bx (Txt R) := ⟨fun I fuel KO KK args H k => match args with
  | [a0] => (fun n0 =>
 I.box a0 H fun v0 H1 =>
 I.load 24 H1 v0 fun v2 =>
 KK 73 [v2] H1 fun v3 H4 f5 => (fun e6 =>
 I.un .not v3 fun v7 =>
 I.cond v7 (
 I.fin n0 H4 e6 [(.int .i64 0)] k) (
 I.fa 24 0 v0 fun v8 =>
 I.load 3 H4 v8 fun v9 =>
 I.fa 24 1 v0 fun v10 =>
 I.load 3 H4 v10 fun v11 =>
 I.bin .sub 3 true v11 (.int .i64 4) fun v12 =>
 I.bin .mul 3 true (.int .i64 4) v12 fun v13 =>
 I.load 24 H4 v0 fun v14 =>
 KK 96 [v14] H4 fun v15 H16 f17 => (fun e18 =>
 I.bin .sub 3 false v13 v15 fun v19 =>
 I.bin .quo 3 true v19 (.int .i64 3) fun v20 =>
 I.blt true .min #[3, 3] n0 [v9, v20] H16 fun v21 H22 f23 => (fun e24 =>
 I.blt true .max #[3, 3] n0 [(.int .i64 0), v21] H22 fun v25 H26 f27 => (fun e28 =>
 I.load 3 H16 v8 fun v29 =>
 I.same v29 v9 (
 I.load 3 H16 v10 fun v30 =>
 I.same v30 v11 (
 I.fin n0 H26 e28 [v25] k))) (escQ f27 e24)) (escQ f23 e18)) (escQ f17 e6))) (escQ f5 false)) (lenQ H)
  | _ => I.bot⟩
theorem ok109 (R : Type) : TxtOk Tryz.prog U ann 109 (r109 R) := fun I fuel KO KK args H k => match args with
  | [] => .inl rfl
  | [a0] => .inr (by kernel_rfl)
  | _ :: _ :: _ => .inl rfl
/-- (*silt/clock.Clock).Key -/
noncomputable def r112 (R : Type) : Bx (Txt R) := ⟨fun I fuel KO KK args H k => match args with
  | [a0, a1] => (fun n0 =>
 KK 191 [a0, a1] H fun v0 H1 f2 => (fun e3 =>
 I.bin .eql 318 true v0 .nilp fun v4 =>
 I.gd v4 false (fun K5 => K5 v0 H1 e3) H1 e3 fun v6 H7 e8 =>
 I.gd v4 false (fun K9 => I.nil v6 fun v13 =>
 K9 v13 H7 e8) H7 e8 fun v10 H11 e12 =>
 I.gd v4 false (fun K14 => I.fa 320 0 v10 fun v18 =>
 K14 v18 H11 e12) H11 e12 fun v15 H16 e17 =>
 I.gd v4 false (fun K19 => I.load 3 H16 v15 fun v23 =>
 K19 v23 H16 e17) H16 e17 fun v20 H21 e22 =>
 I.gd v4 false (fun K24 => I.bin .eql 3 true v20 (.int .i64 (-1)) fun v28 =>
 K24 v28 H21 e22) H21 e22 fun v25 H26 e27 =>
 I.pick v4 (.bool true) v25 fun v29 =>
 I.cond v29 (
 I.fin n0 H26 e27 [(.int .i64 0), (.bool false)] k) (
 I.nil v0 fun v30 =>
 I.fa 320 0 v30 fun v31 =>
 I.load 3 H26 v31 fun v32 =>
 I.fin n0 H26 e27 [v32, (.bool true)] k)) (escQ f2 false)) (lenQ H)
  | _ => I.bot⟩
theorem ok112 (R : Type) : TxtOk Tryz.prog U ann 112 (r112 R) := fun I fuel KO KK args H k => match args with
  | [] => .inl rfl
  | [_] => .inl rfl
  | [a0, a1] => .inr (by kernel_rfl)
  | _ :: _ :: _ :: _ => .inl rfl
/-- (*silt/frames.Frames).Page -/
noncomputable def r113 (R : Type) : Bx (Txt R) := ⟨fun I fuel KO KK args H k => match args with
  | [a0, a1] => (fun n0 =>
 I.alloc 40 H fun v0 H1 =>
 I.alloc 40 H1 fun v2 H3 =>
 KK 192 [a0, a1, (.int .i64 1)] H3 fun v4 H5 f6 => (fun e7 =>
 I.ext v4 0 fun v8 =>
 I.ext v4 1 fun v9 =>
 I.un .not v9 fun v10 =>
 I.cond v10 (
 I.build 40 [] fun v11 =>
 I.build 40 [] fun v12 =>
 I.store n0 40 H5 v0 v11 fun H13 f14 => (fun e15 =>
 I.store n0 40 H13 v2 v12 fun H16 f17 => (fun e18 =>
 I.load 40 H16 v0 fun v19 =>
 I.load 40 H16 v2 fun v20 =>
 I.fin n0 H16 e18 [v19, v20, (.bool false)] k) (escQ f17 e15)) (escQ f14 e7)) (
 I.nil a0 fun v21 =>
 I.fa 312 1 v21 fun v22 =>
 I.load 309 H5 v22 fun v23 =>
 I.ia 309 v23 v8 fun v24 =>
 I.fa 324 0 v24 fun v25 =>
 I.load 40 H5 v25 fun v26 =>
 I.nil a0 fun v27 =>
 I.fa 312 1 v27 fun v28 =>
 I.load 309 H5 v28 fun v29 =>
 I.ia 309 v29 v8 fun v30 =>
 I.fa 324 1 v30 fun v31 =>
 I.load 40 H5 v31 fun v32 =>
 I.store n0 40 H5 v0 v26 fun H33 f34 => (fun e35 =>
 I.store n0 40 H33 v2 v32 fun H36 f37 => (fun e38 =>
 I.load 309 H33 v28 fun v39 =>
 I.same v39 v29 (
 I.load 40 H33 v31 fun v40 =>
 I.same v40 v32 (
 I.load 40 H36 v0 fun v41 =>
 I.load 40 H36 v2 fun v42 =>
 I.fin n0 H36 e38 [v41, v42, (.bool true)] k))) (escQ f37 e35)) (escQ f34 e7))) (escQ f6 false)) (lenQ H)
  | _ => I.bot⟩
theorem ok113 (R : Type) : TxtOk Tryz.prog U ann 113 (r113 R) := fun I fuel KO KK args H k => match args with
  | [] => .inl rfl
  | [_] => .inl rfl
  | [a0, a1] => .inr (by kernel_rfl)
  | _ :: _ :: _ :: _ => .inl rfl
/-- (*silt/cache.Cache).flush -/
noncomputable def r124 (R : Type) : Bx (Txt R) := ⟨fun I fuel KO KK args H k => match args with
  | [a0] => (fun n0 =>
 I.nil a0 fun v0 =>
 I.fa 196 0 v0 fun v1 =>
 I.load 49 H v1 fun v2 =>
 KK 22 [v2] H fun v3 H4 f5 => (fun e6 =>
 I.fld 32 1 v3 fun v7 =>
 I.len v7 fun v8 =>
 I.head n0 458761 [(0, a0), (2, .nili), (3, .nils), (4, .bad), (5, .bad), (6, .bad), (7, .bad), (8, .bad), (9, .bad), (10, .bad), (16, v7), (17, v8), (18, (.int .i64 0)), (19, .bad), (30, .bad), (38, .bad), (45, .bad), (56, .bad), (64, .bad), (65, .bad), (66, .bad)] H4 e6 fun L9 H10 => loopM I n0 458761 (fun L11 H12 e13 k14 =>
 I.bin .lss 3 false (lookQ L11 18) (lookQ L11 17) fun v15 =>
 I.cond v15 (
 I.join (fun L16 H17 e18 =>
 I.bin .add 3 true (lookQ L16 18) (.int .i64 1) fun v19 =>
 k14 .normal [(0, (lookQ L16 0)), (2, (lookQ L16 2)), (3, (lookQ L16 3)), (4, (lookQ L16 4)), (5, (lookQ L16 5)), (6, (lookQ L16 6)), (7, (lookQ L16 7)), (8, (lookQ L16 8)), (9, (lookQ L16 9)), (10, (lookQ L16 10)), (16, (lookQ L16 16)), (17, (lookQ L16 17)), (18, v19), (19, (lookQ L16 19)), (30, (lookQ L16 30)), (38, (lookQ L16 38)), (45, (lookQ L16 45)), (56, (lookQ L16 56)), (64, (lookQ L16 64)), (65, (lookQ L16 65)), (66, (lookQ L16 66))] H17 e18) fun j20 =>
 I.ia 28 (lookQ L11 16) (lookQ L11 18) fun v21 =>
 I.load 3 H12 v21 fun v22 =>
 KK 201 [(lookQ L11 0), (lookQ L11 18), v22] H12 fun v23 H24 f25 => (fun e26 =>
 I.ext v23 0 fun v27 =>
 I.ext v23 1 fun v28 =>
 I.alloc 167 H24 fun v29 H30 =>
 I.store n0 167 H30 v29 v27 fun H31 f32 => (fun e33 =>
 I.cond v28 (
 I.load 167 H31 v29 fun v34 =>
 I.bslice 48 1 [(0, v34)] H31 fun v35 H36 =>
 I.blt true .append #[48, 48] n0 [(lookQ L11 3), v35] H36 fun v37 H38 f39 => (fun e40 =>
 j20 [(0, (lookQ L11 0)), (2, (lookQ L11 2)), (3, v37), (4, (lookQ L11 18)), (5, v22), (6, v29), (7, v28), (8, (lookQ L11 8)), (9, (lookQ L11 9)), (10, (lookQ L11 10)), (16, (lookQ L11 16)), (17, (lookQ L11 17)), (18, (lookQ L11 18)), (19, v15), (30, v28), (38, (lookQ L11 38)), (45, (lookQ L11 45)), (56, (lookQ L11 56)), (64, (lookQ L11 64)), (65, (lookQ L11 65)), (66, (lookQ L11 66))] H38 e40) (escQ f39 e33)) (
 j20 [(0, (lookQ L11 0)), (2, (lookQ L11 2)), (3, (lookQ L11 3)), (4, (lookQ L11 18)), (5, v22), (6, v29), (7, v28), (8, (lookQ L11 8)), (9, (lookQ L11 9)), (10, (lookQ L11 10)), (16, (lookQ L11 16)), (17, (lookQ L11 17)), (18, (lookQ L11 18)), (19, v15), (30, v28), (38, (lookQ L11 38)), (45, (lookQ L11 45)), (56, (lookQ L11 56)), (64, (lookQ L11 64)), (65, (lookQ L11 65)), (66, (lookQ L11 66))] H31 e33)) (escQ f32 e26)) (escQ f25 e13)) (
 k14 (.exit 0) [(0, (lookQ L11 0)), (2, (lookQ L11 2)), (3, (lookQ L11 3)), (4, (lookQ L11 4)), (5, (lookQ L11 5)), (6, (lookQ L11 6)), (7, (lookQ L11 7)), (8, (lookQ L11 8)), (9, (lookQ L11 9)), (10, (lookQ L11 10)), (16, (lookQ L11 16)), (17, (lookQ L11 17)), (18, (lookQ L11 18)), (19, v15), (30, (lookQ L11 30)), (38, (lookQ L11 38)), (45, (lookQ L11 45)), (56, (lookQ L11 56)), (64, (lookQ L11 64)), (65, (lookQ L11 65)), (66, (lookQ L11 66))] H12 e13)) fuel L9 H10 e6 (selK I.bot [(0, (fun L41 H42 e43 =>
 I.len (lookQ L41 3) fun v44 =>
 I.bin .eql 3 true v44 (.int .i64 0) fun v45 =>
 I.cond v45 (
 I.fin n0 H42 e43 [.nili] k) (
 I.nil (lookQ L41 0) fun v46 =>
 I.fa 196 0 v46 fun v47 =>
 I.load 49 H42 v47 fun v48 =>
 KK 29 [v48] H42 fun v49 H50 f51 => (fun e52 =>
 I.bin .neq 33 true v49 (.int .i64 0) fun v53 =>
 I.cond v53 (
 KK 153 [v49, (.str ⟨#[114, 111, 111, 109]⟩)] H50 fun v54 H55 f56 => (fun e57 =>
 KK 86 [v54, (.str ⟨#[102, 108, 117, 115, 104]⟩)] H55 fun v58 H59 f60 => (fun e61 =>
 I.fin n0 H59 e61 [v58] k) (escQ f60 e57)) (escQ f56 e52)) (
 I.nil (lookQ L41 0) fun v62 =>
 I.fa 196 0 v62 fun v63 =>
 I.load 49 H50 v63 fun v64 =>
 KK 19 [v64, (lookQ L41 3)] H50 fun v65 H66 f67 => (fun e68 =>
 I.bin .neq 33 true v65 (.int .i64 0) fun v69 =>
 I.cond v69 (
 KK 153 [v65, (.str ⟨#[99, 111, 109, 109, 105, 116]⟩)] H66 fun v70 H71 f72 => (fun e73 =>
 KK 86 [v70, (.str ⟨#[102, 108, 117, 115, 104]⟩)] H71 fun v74 H75 f76 => (fun e77 =>
 I.fin n0 H75 e77 [v74] k) (escQ f76 e73)) (escQ f72 e68)) (
 I.nil (lookQ L41 0) fun v78 =>
 I.fa 196 3 v78 fun v79 =>
 I.load 194 H66 v79 fun v80 =>
 I.len v80 fun v81 =>
 I.head n0 55340232221128654849 [(0, (lookQ L41 0)), (2, (lookQ L41 2)), (3, (lookQ L41 3)), (4, (lookQ L41 4)), (5, (lookQ L41 5)), (6, (lookQ L41 6)), (7, (lookQ L41 7)), (8, v49), (9, v65), (10, (lookQ L41 10)), (16, (lookQ L41 16)), (17, (lookQ L41 17)), (18, (lookQ L41 18)), (19, (lookQ L41 19)), (30, (lookQ L41 30)), (38, v45), (45, v53), (56, v69), (64, v81), (65, (.int .i64 0)), (66, (lookQ L41 66))] H66 e68 fun L82 H83 => loopM I n0 55340232221128654849 (fun L84 H85 e86 k87 =>
 I.bin .lss 3 false (lookQ L84 65) (lookQ L84 64) fun v88 =>
 I.cond v88 (
 I.nil (lookQ L84 0) fun v89 =>
 I.fa 196 3 v89 fun v90 =>
 I.load 194 H85 v90 fun v91 =>
 I.ia 194 v91 (lookQ L84 65) fun v92 =>
 I.store n0 4 H85 v92 (.bool false) fun H93 f94 => (fun e95 =>
 I.nil (lookQ L84 0) fun v96 =>
 I.fa 196 1 v96 fun v97 =>
 I.load 86 H93 v97 fun v98 =>
 KK 202 [v98, (lookQ L84 65)] H93 fun v99 H100 f101 => (fun e102 =>
 I.bin .add 3 true (lookQ L84 65) (.int .i64 1) fun v103 =>
 k87 .normal [(0, (lookQ L84 0)), (2, (lookQ L84 2)), (3, (lookQ L84 3)), (4, (lookQ L84 4)), (5, (lookQ L84 5)), (6, (lookQ L84 6)), (7, (lookQ L84 7)), (8, (lookQ L84 8)), (9, (lookQ L84 9)), (10, (lookQ L84 65)), (16, (lookQ L84 16)), (17, (lookQ L84 17)), (18, (lookQ L84 18)), (19, (lookQ L84 19)), (30, (lookQ L84 30)), (38, (lookQ L84 38)), (45, (lookQ L84 45)), (56, (lookQ L84 56)), (64, (lookQ L84 64)), (65, v103), (66, v88)] H100 e102) (escQ f101 e95)) (escQ f94 e86)) (
 k87 (.exit 2) [(0, (lookQ L84 0)), (2, (lookQ L84 2)), (3, (lookQ L84 3)), (4, (lookQ L84 4)), (5, (lookQ L84 5)), (6, (lookQ L84 6)), (7, (lookQ L84 7)), (8, (lookQ L84 8)), (9, (lookQ L84 9)), (10, (lookQ L84 10)), (16, (lookQ L84 16)), (17, (lookQ L84 17)), (18, (lookQ L84 18)), (19, (lookQ L84 19)), (30, (lookQ L84 30)), (38, (lookQ L84 38)), (45, (lookQ L84 45)), (56, (lookQ L84 56)), (64, (lookQ L84 64)), (65, (lookQ L84 65)), (66, v88)] H85 e86)) fuel L82 H83 e68 (selK I.bot [(2, (fun L104 H105 e106 =>
 I.fin n0 H105 e106 [.nili] k))] (fun _ _ _ => I.bot)))) (escQ f67 e52))) (escQ f51 e43))))] (fun _ _ _ => I.bot))) (escQ f5 false)) (lenQ H)
  | _ => I.bot⟩
theorem ok124 (R : Type) : TxtOk Tryz.prog U ann 124 (r124 R) := fun I fuel KO KK args H k => match args with
  | [] => .inl rfl
  | [a0] => .inr (by kernel_rfl)
  | _ :: _ :: _ => .inl rfl
/-- (*silt/frames.Frames).Dirty -/
noncomputable def r125 (R : Type) : Bx (Txt R) := ⟨fun I fuel KO KK args H k => match args with
  | [a0] => (fun n0 =>
 I.bin .eql 86 true a0 .nilp fun v0 =>
 I.cond v0 (
 I.fin n0 H false [.nils] k) (
 I.nil a0 fun v1 =>
 I.fa 312 1 v1 fun v2 =>
 I.load 309 H v2 fun v3 =>
 I.len v3 fun v4 =>
 I.head n0 24585 [(0, a0), (2, .nils), (3, .nils), (4, .bad), (5, .bad), (6, .bad), (8, v0), (13, v4), (14, (.int .i64 0)), (15, .bad), (31, .bad)] H false fun L5 H6 => loopM I n0 24585 (fun L7 H8 e9 k10 =>
 I.bin .lss 3 false (lookQ L7 14) (lookQ L7 13) fun v11 =>
 I.cond v11 (
 I.join (fun L12 H13 e14 =>
 I.bin .add 3 true (lookQ L12 14) (.int .i64 1) fun v15 =>
 k10 .normal [(0, (lookQ L12 0)), (2, (lookQ L12 2)), (3, (lookQ L12 3)), (4, (lookQ L12 4)), (5, (lookQ L12 5)), (6, (lookQ L12 6)), (8, (lookQ L12 8)), (13, (lookQ L12 13)), (14, v15), (15, (lookQ L12 15)), (31, (lookQ L12 31))] H13 e14) fun j16 =>
 I.nil (lookQ L7 0) fun v17 =>
 I.fa 312 0 v17 fun v18 =>
 I.load 198 H8 v18 fun v19 =>
 KK 112 [v19, (lookQ L7 14)] H8 fun v20 H21 f22 => (fun e23 =>
 I.ext v20 0 fun v24 =>
 I.ext v20 1 fun v25 =>
 I.gd v25 true (fun K26 => K26 (lookQ L7 0) H21 e23) H21 e23 fun v27 H28 e29 =>
 I.gd v25 true (fun K30 => K30 (lookQ L7 14) H28 e29) H28 e29 fun v31 H32 e33 =>
 I.gd v25 true (fun K34 => KK 203 [v27, v31] H32 fun v38 H39 f40 => (fun e41 =>
 K34 v38 H39 e41) (escQ f40 e33)) H32 e33 fun v35 H36 e37 =>
 I.pick v25 v35 (.bool false) fun v42 =>
 I.cond v42 (
 I.bslice 28 1 [(0, v24)] H36 fun v43 H44 =>
 I.blt true .append #[28, 28] n0 [(lookQ L7 3), v43] H44 fun v45 H46 f47 => (fun e48 =>
 j16 [(0, (lookQ L7 0)), (2, (lookQ L7 2)), (3, v45), (4, (lookQ L7 14)), (5, v24), (6, v25), (8, (lookQ L7 8)), (13, (lookQ L7 13)), (14, (lookQ L7 14)), (15, v11), (31, v42)] H46 e48) (escQ f47 e37)) (
 j16 [(0, (lookQ L7 0)), (2, (lookQ L7 2)), (3, (lookQ L7 3)), (4, (lookQ L7 14)), (5, v24), (6, v25), (8, (lookQ L7 8)), (13, (lookQ L7 13)), (14, (lookQ L7 14)), (15, v11), (31, v42)] H36 e37)) (escQ f22 e9)) (
 k10 (.exit 0) [(0, (lookQ L7 0)), (2, (lookQ L7 2)), (3, (lookQ L7 3)), (4, (lookQ L7 4)), (5, (lookQ L7 5)), (6, (lookQ L7 6)), (8, (lookQ L7 8)), (13, (lookQ L7 13)), (14, (lookQ L7 14)), (15, v11), (31, (lookQ L7 31))] H8 e9)) fuel L5 H6 false (selK I.bot [(0, (fun L49 H50 e51 =>
 KK 204 [(lookQ L49 3)] H50 fun v52 H53 f54 => (fun e55 =>
 I.fin n0 H53 e55 [(lookQ L49 3)] k) (escQ f54 e51)))] (fun _ _ _ => I.bot)))) (lenQ H)
  | _ => I.bot⟩
theorem ok125 (R : Type) : TxtOk Tryz.prog U ann 125 (r125 R) := fun I fuel KO KK args H k => match args with
  | [] => .inl rfl
  | [a0] => .inr (by kernel_rfl)
  | _ :: _ :: _ => .inl rfl
/-- (*silt/store.Store).step -/
noncomputable def r139 (R : Type) : Bx (Txt R) := ⟨fun I fuel KO KK args H k => match args with
  | [a0, a1] => (fun n0 =>
 I.alloc 233 H fun v0 H1 =>
 KK 134 [a0, a1] H1 fun v2 H3 f4 => (fun e5 =>
 I.mkI 33 (.int .i64 20) fun v6 =>
 KK 143 [v2, v6] H3 fun v7 H8 f9 => (fun e10 =>
 I.gd v7 false (fun K11 => K11 a0 H8 e10) H8 e10 fun v12 H13 e14 =>
 I.gd v7 false (fun K15 => I.bin .eql 110 true v12 .nilp fun v19 =>
 K15 v19 H13 e14) H13 e14 fun v16 H17 e18 =>
 I.pick v7 (.bool true) v16 fun v20 =>
 I.gd v20 false (fun K21 => K21 a0 H17 e18) H17 e18 fun v22 H23 e24 =>
 I.gd v20 false (fun K25 => K25 a1 H23 e24) H23 e24 fun v26 H27 e28 =>
 I.gd v20 false (fun K29 => I.nil v22 fun v33 =>
 K29 v33 H27 e28) H27 e28 fun v30 H31 e32 =>
 I.gd v20 false (fun K34 => I.fa 228 2 v30 fun v38 =>
 K34 v38 H31 e32) H31 e32 fun v35 H36 e37 =>
 I.gd v20 false (fun K39 => I.ia 226 v35 v26 fun v43 =>
 K39 v43 H36 e37) H36 e37 fun v40 H41 e42 =>
 I.gd v20 false (fun K44 => I.load 225 H41 v40 fun v48 =>
 K44 v48 H41 e42) H41 e42 fun v45 H46 e47 =>
 I.gd v20 false (fun K49 => I.bin .eql 225 true v45 .nilp fun v53 =>
 K49 v53 H46 e47) H46 e47 fun v50 H51 e52 =>
 I.pick v20 (.bool true) v50 fun v54 =>
 I.cond v54 (
 I.build 233 [] fun v55 =>
 I.store n0 233 H51 v0 v55 fun H56 f57 => (fun e58 =>
 I.load 233 H56 v0 fun v59 =>
 I.fin n0 H56 e58 [v59, (.bool false)] k) (escQ f57 e52)) (
 I.nil a0 fun v60 =>
 I.fa 228 2 v60 fun v61 =>
 I.ia 226 v61 a1 fun v62 =>
 I.load 225 H51 v62 fun v63 =>
 I.nil v63 fun v64 =>
 I.load 91 H51 v64 fun v65 =>
 I.alloc 91 H51 fun v66 H67 =>
 I.store n0 91 H67 v66 v65 fun H68 f69 => (fun e70 =>
 KK 57 [a0, a1] H68 fun v71 H72 f73 => (fun e74 =>
 I.ext v71 0 fun v75 =>
 I.ext v71 1 fun v76 =>
 I.ext v71 2 fun v77 =>
 I.alloc 102 H72 fun v78 H79 =>
 I.store n0 102 H79 v78 v75 fun H80 f81 => (fun e82 =>
 I.load 91 H80 v66 fun v83 =>
 I.load 102 H80 v78 fun v84 =>
 I.build 233 [(0, a1), (1, v83), (2, v84)] fun v85 =>
 I.store n0 233 H80 v0 v85 fun H86 f87 => (fun e88 =>
 I.load 233 H86 v0 fun v89 =>
 I.fin n0 H86 e88 [v89, v76] k) (escQ f87 e82)) (escQ f81 e74)) (escQ f73 e70)) (escQ f69 e52))) (escQ f9 e5)) (escQ f4 false)) (lenQ H)
  | _ => I.bot⟩
theorem ok139 (R : Type) : TxtOk Tryz.prog U ann 139 (r139 R) := fun I fuel KO KK args H k => match args with
  | [] => .inl rfl
  | [_] => .inl rfl
  | [a0, a1] => .inr (by kernel_rfl)
  | _ :: _ :: _ :: _ => .inl rfl
/-- (*silt/clock.Clock).Pinned -/
noncomputable def r140 (R : Type) : Bx (Txt R) := ⟨fun I fuel KO KK args H k => match args with
  | [a0] => (fun n0 =>
 I.bin .eql 198 true a0 .nilp fun v0 =>
 I.cond v0 (
 I.fin n0 H false [(.int .i64 0)] k) (
 I.nil a0 fun v1 =>
 I.fa 317 0 v1 fun v2 =>
 I.load 315 H v2 fun v3 =>
 I.len v3 fun v4 =>
 I.head n0 14344 [(0, a0), (2, (.int .i64 0)), (3, (.int .i64 0)), (5, .bad), (7, v0), (11, v3), (12, v4), (13, (.int .i64 0)), (14, .bad), (19, .bad)] H false fun L5 H6 => loopM I n0 14344 (fun L7 H8 e9 k10 =>
 I.bin .lss 3 false (lookQ L7 13) (lookQ L7 12) fun v11 =>
 I.cond v11 (
 I.join (fun L12 H13 e14 =>
 I.bin .add 3 true (lookQ L12 13) (.int .i64 1) fun v15 =>
 k10 .normal [(0, (lookQ L12 0)), (2, (lookQ L12 2)), (3, (lookQ L12 3)), (5, (lookQ L12 5)), (7, (lookQ L12 7)), (11, (lookQ L12 11)), (12, (lookQ L12 12)), (13, v15), (14, (lookQ L12 14)), (19, (lookQ L12 19))] H13 e14) fun j16 =>
 I.ia 315 (lookQ L7 11) (lookQ L7 13) fun v17 =>
 I.load 320 H8 v17 fun v18 =>
 I.alloc 320 H8 fun v19 H20 =>
 I.store n0 320 H20 v19 v18 fun H21 f22 => (fun e23 =>
 I.fa 320 2 v19 fun v24 =>
 I.load 3 H21 v24 fun v25 =>
 I.bin .gtr 3 true v25 (.int .i64 0) fun v26 =>
 I.cond v26 (
 I.bin .add 3 true (lookQ L7 3) (.int .i64 1) fun v27 =>
 j16 [(0, (lookQ L7 0)), (2, (lookQ L7 2)), (3, v27), (5, v19), (7, (lookQ L7 7)), (11, (lookQ L7 11)), (12, (lookQ L7 12)), (13, (lookQ L7 13)), (14, v11), (19, v26)] H21 e23) (
 j16 [(0, (lookQ L7 0)), (2, (lookQ L7 2)), (3, (lookQ L7 3)), (5, v19), (7, (lookQ L7 7)), (11, (lookQ L7 11)), (12, (lookQ L7 12)), (13, (lookQ L7 13)), (14, v11), (19, v26)] H21 e23)) (escQ f22 e9)) (
 k10 (.exit 0) [(0, (lookQ L7 0)), (2, (lookQ L7 2)), (3, (lookQ L7 3)), (5, (lookQ L7 5)), (7, (lookQ L7 7)), (11, (lookQ L7 11)), (12, (lookQ L7 12)), (13, (lookQ L7 13)), (14, v11), (19, (lookQ L7 19))] H8 e9)) fuel L5 H6 false (selK I.bot [(0, (fun L28 H29 e30 =>
 I.fin n0 H29 e30 [(lookQ L28 3)] k))] (fun _ _ _ => I.bot)))) (lenQ H)
  | _ => I.bot⟩
theorem ok140 (R : Type) : TxtOk Tryz.prog U ann 140 (r140 R) := fun I fuel KO KK args H k => match args with
  | [] => .inl rfl
  | [a0] => .inr (by kernel_rfl)
  | _ :: _ :: _ => .inl rfl
/-- errors.Is -/
noncomputable def r143 (R : Type) : Bx (Txt R) := ⟨fun I fuel KO KK args H k => match args with
  | [a0, a1] => (fun n0 =>
 I.bin .eql 137 true a0 .nili fun v0 =>
 I.gd v0 false (fun K1 => K1 a1 H false) H false fun v2 H3 e4 =>
 I.gd v0 false (fun K5 => I.bin .eql 137 true v2 .nili fun v9 =>
 K5 v9 H3 e4) H3 e4 fun v6 H7 e8 =>
 I.pick v0 (.bool true) v6 fun v10 =>
 I.cond v10 (
 I.bin .eql 137 false a0 a1 fun v11 =>
 I.fin n0 H7 e8 [v11] k) (
 I.extern 213 [a1] H7 fun v12 H13 f14 => (fun e15 =>
 I.inv KK v12 "Comparable" [] H13 fun v16 H17 f18 => (fun e19 =>
 KK 214 [a0, a1, v16] H17 fun v20 H21 f22 => (fun e23 =>
 I.fin n0 H21 e23 [v20] k) (escQ f22 e19)) (escQ f18 e15)) (escQ f14 e8))) (lenQ H)
  | _ => I.bot⟩
theorem ok143 (R : Type) : TxtOk Tryz.prog U ann 143 (r143 R) := fun I fuel KO KK args H k => match args with
  | [] => .inl rfl
  | [_] => .inl rfl
  | [a0, a1] => .inr (by kernel_rfl)
  | _ :: _ :: _ :: _ => .inl rfl
/-- (*silt/model.Model).Copy -/
noncomputable def r149 (R : Type) : Bx (Txt R) := ⟨fun I fuel KO KK args H k => match args with
  | [a0] => (fun n0 =>
 I.bin .eql 236 true a0 .nilp fun v0 =>
 I.cond v0 (
 I.fin n0 H false [.nilp] k) (
 I.nil a0 fun v1 =>
 I.fa 341 0 v1 fun v2 =>
 I.load 28 H v2 fun v3 =>
 I.nil a0 fun v4 =>
 I.fa 341 1 v4 fun v5 =>
 I.load 338 H v5 fun v6 =>
 I.nil a0 fun v7 =>
 I.fa 341 2 v7 fun v8 =>
 I.load 3 H v8 fun v9 =>
 KK 97 [v3] H fun v10 H11 f12 => (fun e13 =>
 KK 218 [v6] H11 fun v14 H15 f16 => (fun e17 =>
 I.build 341 [(0, v10), (1, v14), (2, v9)] fun v18 =>
 I.box v18 H15 fun v19 H20 =>
 I.load 338 H11 v5 fun v21 =>
 I.same v21 v6 (
 I.load 3 H11 v8 fun v22 =>
 I.same v22 v9 (
 I.load 3 H15 v8 fun v23 =>
 I.same v23 v9 (
 I.nil a0 fun v24 =>
 I.fa 341 3 v24 fun v25 =>
 I.load 339 H20 v25 fun v26 =>
 I.head n0 402653192 [(0, a0), (2, .nilp), (3, v19), (4, .bad), (5, .bad), (7, v0), (27, v26), (28, (.int .i64 0)), (29, .bad)] H20 e17 fun L27 H28 => loopM I n0 402653192 (fun L29 H30 e31 k32 =>
 I.bin .lss 3 true (lookQ L29 28) (.int .i64 4) fun v33 =>
 I.cond v33 (
 I.idx 339 (lookQ L29 27) (lookQ L29 28) fun v34 =>
 I.nil (lookQ L29 3) fun v35 =>
 I.fa 341 3 v35 fun v36 =>
 KK 97 [v34] H30 fun v37 H38 f39 => (fun e40 =>
 I.ia 339 v36 (lookQ L29 28) fun v41 =>
 I.store n0 28 H38 v41 v37 fun H42 f43 => (fun e44 =>
 I.bin .add 3 true (lookQ L29 28) (.int .i64 1) fun v45 =>
 k32 .normal [(0, (lookQ L29 0)), (2, (lookQ L29 2)), (3, (lookQ L29 3)), (4, (lookQ L29 28)), (5, v34), (7, (lookQ L29 7)), (27, (lookQ L29 27)), (28, v45), (29, v33)] H42 e44) (escQ f43 e40)) (escQ f39 e31)) (
 k32 (.exit 0) [(0, (lookQ L29 0)), (2, (lookQ L29 2)), (3, (lookQ L29 3)), (4, (lookQ L29 4)), (5, (lookQ L29 5)), (7, (lookQ L29 7)), (27, (lookQ L29 27)), (28, (lookQ L29 28)), (29, v33)] H30 e31)) fuel L27 H28 e17 (selK I.bot [(0, (fun L46 H47 e48 =>
 I.fin n0 H47 e48 [(lookQ L46 3)] k))] (fun _ _ _ => I.bot)))))) (escQ f16 e13)) (escQ f12 false))) (lenQ H)
  | _ => I.bot⟩
theorem ok149 (R : Type) : TxtOk Tryz.prog U ann 149 (r149 R) := fun I fuel KO KK args H k => match args with
  | [] => .inl rfl
  | [a0] => .inr (by kernel_rfl)
  | _ :: _ :: _ => .inl rfl
/-- silt/anchor.Newest -/
noncomputable def r152 (R : Type) : Bx (Txt R) := ⟨fun I fuel KO KK args H k => match args with
  | [a0] => (fun n0 =>
 I.alloc 27 H fun v0 H1 =>
 I.bin .eql 36 true a0 .nilp fun v2 =>
 I.cond v2 (
 I.build 27 [] fun v3 =>
 I.store n0 27 H1 v0 v3 fun H4 f5 => (fun e6 =>
 I.load 27 H4 v0 fun v7 =>
 I.fin n0 H4 e6 [v7, (.int .i64 1)] k) (escQ f5 false)) (
 I.alloc 27 H1 fun v8 H9 =>
 I.head n0 4149 [(0, a0), (2, v0), (3, (.int .i64 0)), (4, v8), (5, (.bool false)), (6, .bad), (7, .bad), (8, .bad), (10, v2), (12, (.int .i64 0)), (13, .bad), (23, .bad), (32, .bad), (36, .bad)] H9 false fun L10 H11 => loopM I n0 4149 (fun L12 H13 e14 k15 =>
 I.bin .lss 3 true (lookQ L12 12) (.int .i64 2) fun v16 =>
 I.cond v16 (
 I.join (fun L17 H18 e19 =>
 I.bin .add 3 true (lookQ L17 12) (.int .i64 1) fun v20 =>
 k15 .normal [(0, (lookQ L17 0)), (2, (lookQ L17 2)), (3, (lookQ L17 3)), (4, (lookQ L17 4)), (5, (lookQ L17 5)), (6, (lookQ L17 6)), (7, (lookQ L17 7)), (8, (lookQ L17 8)), (10, (lookQ L17 10)), (12, v20), (13, (lookQ L17 13)), (23, (lookQ L17 23)), (32, (lookQ L17 32)), (36, (lookQ L17 36))] H18 e19) fun j21 =>
 KK 222 [(lookQ L12 0), (lookQ L12 12)] H13 fun v22 H23 f24 => (fun e25 =>
 I.ext v22 0 fun v26 =>
 I.ext v22 1 fun v27 =>
 I.alloc 27 H23 fun v28 H29 =>
 I.store n0 27 H29 v28 v26 fun H30 f31 => (fun e32 =>
 I.mkI 33 (.int .i64 13) fun v33 =>
 KK 143 [v27, v33] H30 fun v34 H35 f36 => (fun e37 =>
 I.cond v34 (
 j21 [(0, (lookQ L12 0)), (2, (lookQ L12 2)), (3, (lookQ L12 3)), (4, (lookQ L12 4)), (5, (lookQ L12 5)), (6, (lookQ L12 12)), (7, v28), (8, v27), (10, (lookQ L12 10)), (12, (lookQ L12 12)), (13, v16), (23, v34), (32, (lookQ L12 32)), (36, (lookQ L12 36))] H35 e37) (
 I.un .not (lookQ L12 5) fun v38 =>
 I.gd v38 false (fun K39 => I.fa 27 0 v28 fun v43 =>
 K39 v43 H35 e37) H35 e37 fun v40 H41 e42 =>
 I.gd v38 false (fun K44 => I.load 22 H41 v40 fun v48 =>
 K44 v48 H41 e42) H41 e42 fun v45 H46 e47 =>
 I.gd v38 false (fun K49 => I.fa 27 0 (lookQ L12 4) fun v53 =>
 K49 v53 H46 e47) H46 e47 fun v50 H51 e52 =>
 I.gd v38 false (fun K54 => I.load 22 H51 v50 fun v58 =>
 K54 v58 H51 e52) H51 e52 fun v55 H56 e57 =>
 I.gd v38 false (fun K59 => I.bin .gtr 22 false v45 v55 fun v63 =>
 K59 v63 H56 e57) H56 e57 fun v60 H61 e62 =>
 I.pick v38 (.bool true) v60 fun v64 =>
 I.cond v64 (
 I.load 27 H61 v28 fun v65 =>
 I.store n0 27 H61 (lookQ L12 4) v65 fun H66 f67 => (fun e68 =>
 j21 [(0, (lookQ L12 0)), (2, (lookQ L12 2)), (3, (lookQ L12 3)), (4, (lookQ L12 4)), (5, (.bool true)), (6, (lookQ L12 12)), (7, v28), (8, v27), (10, (lookQ L12 10)), (12, (lookQ L12 12)), (13, v16), (23, v34), (32, v64), (36, (lookQ L12 36))] H66 e68) (escQ f67 e62)) (
 j21 [(0, (lookQ L12 0)), (2, (lookQ L12 2)), (3, (lookQ L12 3)), (4, (lookQ L12 4)), (5, (lookQ L12 5)), (6, (lookQ L12 12)), (7, v28), (8, v27), (10, (lookQ L12 10)), (12, (lookQ L12 12)), (13, v16), (23, v34), (32, v64), (36, (lookQ L12 36))] H61 e62))) (escQ f36 e32)) (escQ f31 e25)) (escQ f24 e14)) (
 k15 (.exit 0) [(0, (lookQ L12 0)), (2, (lookQ L12 2)), (3, (lookQ L12 3)), (4, (lookQ L12 4)), (5, (lookQ L12 5)), (6, (lookQ L12 6)), (7, (lookQ L12 7)), (8, (lookQ L12 8)), (10, (lookQ L12 10)), (12, (lookQ L12 12)), (13, v16), (23, (lookQ L12 23)), (32, (lookQ L12 32)), (36, (lookQ L12 36))] H13 e14)) fuel L10 H11 false (selK I.bot [(0, (fun L69 H70 e71 =>
 I.un .not (lookQ L69 5) fun v72 =>
 I.cond v72 (
 I.build 27 [] fun v73 =>
 I.store n0 27 H70 (lookQ L69 2) v73 fun H74 f75 => (fun e76 =>
 I.load 27 H74 (lookQ L69 2) fun v77 =>
 I.fin n0 H74 e76 [v77, (.int .i64 13)] k) (escQ f75 e71)) (
 I.load 27 H70 (lookQ L69 4) fun v78 =>
 I.store n0 27 H70 (lookQ L69 2) v78 fun H79 f80 => (fun e81 =>
 I.load 27 H79 (lookQ L69 2) fun v82 =>
 I.fin n0 H79 e81 [v82, (.int .i64 0)] k) (escQ f80 e71)))), (1, (fun L83 H84 e85 =>
 I.bot))] (fun _ _ _ => I.bot)))) (lenQ H)
  | _ => I.bot⟩
theorem ok152 (R : Type) : TxtOk Tryz.prog U ann 152 (r152 R) := fun I fuel KO KK args H k => match args with
  | [] => .inl rfl
  | [a0] => .inr (by kernel_rfl)
  | _ :: _ :: _ => .inl rfl
/-- silt/recover.mapped -/
noncomputable def r154 (R : Type) : Bx (Txt R) := ⟨fun I fuel KO KK args H k => match args with
  | [a0, a1] => (fun n0 =>
 I.nil a1 fun v0 =>
 I.fa 32 0 v0 fun v1 =>
 I.fa 27 1 v1 fun v2 =>
 I.load 24 H v2 fun v3 =>
 I.alloc 24 H fun v4 H5 =>
 I.store n0 24 H5 v4 v3 fun H6 f7 => (fun e8 =>
 I.load 24 H6 v4 fun v9 =>
 KK 96 [v9] H6 fun v10 H11 f12 => (fun e13 =>
 I.head n0 1572963 [(0, a0), (1, a1), (4, .nili), (5, v4), (6, .nils), (7, .bad), (8, .bad), (9, .bad), (10, .bad), (11, .bad), (12, .bad), (19, v10), (20, (.int .i64 0)), (21, .bad), (33, .bad), (43, .bad), (58, .bad)] H11 e13 fun L14 H15 => loopM I n0 1572963 (fun L16 H17 e18 k19 =>
 I.bin .lss 3 false (lookQ L16 20) (lookQ L16 19) fun v20 =>
 I.cond v20 (
 I.build 158 [(0, (.int .i64 3)), (1, (lookQ L16 20))] fun v21 =>
 I.alloc 158 H17 fun v22 H23 =>
 I.store n0 158 H23 v22 v21 fun H24 f25 => (fun e26 =>
 I.join (fun L27 H28 e29 =>
 I.load 158 H28 (lookQ L27 8) fun v30 =>
 I.bslice 264 1 [(0, v30)] H28 fun v31 H32 =>
 I.blt true .append #[264, 264] n0 [(lookQ L27 6), v31] H32 fun v33 H34 f35 => (fun e36 =>
 I.bin .add 3 true (lookQ L27 20) (.int .i64 1) fun v37 =>
 k19 .normal [(0, (lookQ L27 0)), (1, (lookQ L27 1)), (4, (lookQ L27 4)), (5, (lookQ L27 5)), (6, v33), (7, (lookQ L27 7)), (8, (lookQ L27 8)), (9, (lookQ L27 9)), (10, (lookQ L27 10)), (11, (lookQ L27 11)), (12, (lookQ L27 12)), (19, (lookQ L27 19)), (20, v37), (21, (lookQ L27 21)), (33, (lookQ L27 33)), (43, (lookQ L27 43)), (58, (lookQ L27 58))] H34 e36) (escQ f35 e29)) fun j38 =>
 I.nil (lookQ L16 1) fun v39 =>
 I.fa 32 0 v39 fun v40 =>
 I.fa 27 5 v40 fun v41 =>
 I.ia 25 v41 (lookQ L16 20) fun v42 =>
 I.load 3 H24 v42 fun v43 =>
 I.bin .neq 3 true v43 (.int .i64 0) fun v44 =>
 I.cond v44 (
 I.load 24 H24 (lookQ L16 5) fun v45 =>
 KK 163 [(lookQ L16 0), v45, v43, (lookQ L16 20)] H24 fun v46 H47 f48 => (fun e49 =>
 I.ext v46 0 fun v50 =>
 I.ext v46 1 fun v51 =>
 I.store n0 158 H47 v22 v50 fun H52 f53 => (fun e54 =>
 I.bin .neq 137 true v51 .nili fun v55 =>
 I.cond v55 (
 KK 86 [v51, (.str ⟨#[114, 111, 111, 116]⟩)] H52 fun v56 H57 f58 => (fun e59 =>
 k19 .ret [(0, (lookQ L16 0)), (1, (lookQ L16 1)), (4, v56), (5, (lookQ L16 5)), (6, (lookQ L16 6)), (7, (lookQ L16 20)), (8, v22), (9, v43), (10, v51), (11, (lookQ L16 11)), (12, (lookQ L16 12)), (19, (lookQ L16 19)), (20, (lookQ L16 20)), (21, v20), (33, v44), (43, v55), (58, (lookQ L16 58))] H57 e59) (escQ f58 e54)) (
 j38 [(0, (lookQ L16 0)), (1, (lookQ L16 1)), (4, (lookQ L16 4)), (5, (lookQ L16 5)), (6, (lookQ L16 6)), (7, (lookQ L16 20)), (8, v22), (9, v43), (10, v51), (11, (lookQ L16 11)), (12, (lookQ L16 12)), (19, (lookQ L16 19)), (20, (lookQ L16 20)), (21, v20), (33, v44), (43, v55), (58, (lookQ L16 58))] H52 e54)) (escQ f53 e49)) (escQ f48 e26)) (
 j38 [(0, (lookQ L16 0)), (1, (lookQ L16 1)), (4, (lookQ L16 4)), (5, (lookQ L16 5)), (6, (lookQ L16 6)), (7, (lookQ L16 20)), (8, v22), (9, v43), (10, (lookQ L16 10)), (11, (lookQ L16 11)), (12, (lookQ L16 12)), (19, (lookQ L16 19)), (20, (lookQ L16 20)), (21, v20), (33, v44), (43, (lookQ L16 43)), (58, (lookQ L16 58))] H24 e26)) (escQ f25 e18)) (
 k19 (.exit 0) [(0, (lookQ L16 0)), (1, (lookQ L16 1)), (4, (lookQ L16 4)), (5, (lookQ L16 5)), (6, (lookQ L16 6)), (7, (lookQ L16 7)), (8, (lookQ L16 8)), (9, (lookQ L16 9)), (10, (lookQ L16 10)), (11, (lookQ L16 11)), (12, (lookQ L16 12)), (19, (lookQ L16 19)), (20, (lookQ L16 20)), (21, v20), (33, (lookQ L16 33)), (43, (lookQ L16 43)), (58, (lookQ L16 58))] H17 e18)) fuel L14 H15 e13 (selK I.bot [(0, (fun L60 H61 e62 =>
 I.load 24 H61 (lookQ L60 5) fun v63 =>
 KK 223 [v63, (lookQ L60 6)] H61 fun v64 H65 f66 => (fun e67 =>
 I.ext v64 0 fun v68 =>
 I.ext v64 1 fun v69 =>
 I.bin .neq 33 true v69 (.int .i64 0) fun v70 =>
 I.cond v70 (
 KK 159 [(.str ⟨#[104, 101, 97, 100, 115]⟩)] H65 fun v71 H72 f73 => (fun e74 =>
 KK 86 [v71, (.str ⟨#[114, 111, 111, 116]⟩)] H72 fun v75 H76 f77 => (fun e78 =>
 I.fin n0 H76 e78 [v75] k) (escQ f77 e74)) (escQ f73 e67)) (
 KK 97 [v68] H65 fun v79 H80 f81 => (fun e82 =>
 I.nil (lookQ L60 1) fun v83 =>
 I.fa 32 1 v83 fun v84 =>
 I.store n0 28 H80 v84 v68 fun H85 f86 => (fun e87 =>
 I.nil (lookQ L60 1) fun v88 =>
 I.fa 32 2 v88 fun v89 =>
 I.store n0 28 H85 v89 v79 fun H90 f91 => (fun e92 =>
 I.fin n0 H90 e92 [.nili] k) (escQ f91 e87)) (escQ f86 e82)) (escQ f81 e67))) (escQ f66 e62)))] (fun L93 H94 e95 =>
 I.fin n0 H94 e95 [(lookQ L93 4)] k))) (escQ f12 e8)) (escQ f7 false)) (lenQ H)
  | _ => I.bot⟩
theorem ok154 (R : Type) : TxtOk Tryz.prog U ann 154 (r154 R) := fun I fuel KO KK args H k => match args with
  | [] => .inl rfl
  | [_] => .inl rfl
  | [a0, a1] => .inr (by kernel_rfl)
  | _ :: _ :: _ :: _ => .inl rfl
/-- silt/recover.right -/
noncomputable def r155 (R : Type) : Bx (Txt R) := ⟨fun I fuel KO KK args H k => match args with
  | [a0, a1, a2] => (fun n0 =>
 I.box a1 H fun v0 H1 =>
 I.box a2 H1 fun v2 H3 =>
 I.fa 32 0 v0 fun v4 =>
 I.fa 27 1 v4 fun v5 =>
 I.load 24 H3 v5 fun v6 =>
 I.alloc 24 H3 fun v7 H8 =>
 I.store n0 24 H8 v7 v6 fun H9 f10 => (fun e11 =>
 I.fa 32 1 v0 fun v12 =>
 I.load 28 H9 v12 fun v13 =>
 I.load 24 H9 v7 fun v14 =>
 KK 224 [v13] H9 fun v15 H16 f17 => (fun e18 =>
 KK 109 [v14] H16 fun v19 H20 f21 => (fun e22 =>
 I.bin .gtr 3 false v15 v19 fun v23 =>
 I.load 24 H16 v7 fun v24 =>
 I.same v24 v14 (
 I.cond v23 (
 KK 159 [(.str ⟨#[112, 97, 103, 101, 115]⟩)] H20 fun v25 H26 f27 => (fun e28 =>
 I.fin n0 H26 e28 [.nils, v25] k) (escQ f27 e22)) (
 I.load 32 H20 v0 fun v29 =>
 KK 81 [a0, v29] H20 fun v30 H31 f32 => (fun e33 =>
 I.ext v30 0 fun v34 =>
 I.ext v30 1 fun v35 =>
 I.bin .neq 33 true v35 (.int .i64 0) fun v36 =>
 I.cond v36 (
 KK 159 [(.str ⟨#[99, 104, 97, 105, 110, 115]⟩)] H31 fun v37 H38 f39 => (fun e40 =>
 I.fin n0 H38 e40 [.nils, v37] k) (escQ f39 e33)) (
 KK 226 [v34] H31 fun v41 H42 f43 => (fun e44 =>
 KK 225 [v41] H42 fun v45 H46 f47 => (fun e48 =>
 I.len v45 fun v49 =>
 I.head n0 3848290700064 [(0, a0), (1, a1), (2, a2), (4, v0), (5, v2), (6, .nils), (7, .nili), (8, v7), (9, v34), (10, v35), (11, v45), (12, .bad), (13, .bad), (14, .bad), (15, .bad), (25, v23), (34, v36), (39, v45), (40, v49), (41, (.int .i64 0)), (42, .bad), (56, .bad), (74, .bad)] H46 e48 fun L50 H51 => loopM I n0 3848290700064 (fun L52 H53 e54 k55 =>
 I.bin .lss 3 false (lookQ L52 41) (lookQ L52 40) fun v56 =>
 I.cond v56 (
 I.ia 28 (lookQ L52 39) (lookQ L52 41) fun v57 =>
 I.load 3 H53 v57 fun v58 =>
 I.bin .gtr 3 true (lookQ L52 41) (.int .i64 0) fun v59 =>
 I.gd v59 true (fun K60 => K60 (lookQ L52 11) H53 e54) H53 e54 fun v61 H62 e63 =>
 I.gd v59 true (fun K64 => K64 (lookQ L52 41) H62 e63) H62 e63 fun v65 H66 e67 =>
 I.gd v59 true (fun K68 => I.bin .sub 3 true v65 (.int .i64 1) fun v72 =>
 K68 v72 H66 e67) H66 e67 fun v69 H70 e71 =>
 I.gd v59 true (fun K73 => I.ia 28 v61 v69 fun v77 =>
 K73 v77 H70 e71) H70 e71 fun v74 H75 e76 =>
 I.gd v59 true (fun K78 => I.load 3 H75 v74 fun v82 =>
 K78 v82 H75 e76) H75 e76 fun v79 H80 e81 =>
 I.gd v59 true (fun K83 => K83 v58 H80 e81) H80 e81 fun v84 H85 e86 =>
 I.gd v59 true (fun K87 => I.bin .eql 3 false v79 v84 fun v91 =>
 K87 v91 H85 e86) H85 e86 fun v88 H89 e90 =>
 I.pick v59 v88 (.bool false) fun v92 =>
 I.cond v92 (
 KK 159 [(.str ⟨#[116, 119, 105, 99, 101]⟩)] H89 fun v93 H94 f95 => (fun e96 =>
 k55 .ret [(0, (lookQ L52 0)), (1, (lookQ L52 1)), (2, (lookQ L52 2)), (4, (lookQ L52 4)), (5, (lookQ L52 5)), (6, .nils), (7, v93), (8, (lookQ L52 8)), (9, (lookQ L52 9)), (10, (lookQ L52 10)), (11, (lookQ L52 11)), (12, (lookQ L52 41)), (13, v58), (14, (lookQ L52 14)), (15, (lookQ L52 15)), (25, (lookQ L52 25)), (34, (lookQ L52 34)), (39, (lookQ L52 39)), (40, (lookQ L52 40)), (41, (lookQ L52 41)), (42, v56), (56, v92), (74, (lookQ L52 74))] H94 e96) (escQ f95 e90)) (
 I.load 24 H89 (lookQ L52 8) fun v97 =>
 KK 183 [v97, v58] H89 fun v98 H99 f100 => (fun e101 =>
 I.ext v98 0 fun v102 =>
 I.ext v98 1 fun v103 =>
 I.ext v98 2 fun v104 =>
 I.fa 30 0 (lookQ L52 5) fun v105 =>
 I.load 3 H99 v105 fun v106 =>
 I.bin .eql 3 false v102 v106 fun v107 =>
 I.gd v107 true (fun K108 => K108 v103 H99 e101) H99 e101 fun v109 H110 e111 =>
 I.gd v107 true (fun K112 => I.fa 30 1 (lookQ L52 5) fun v116 =>
 K112 v116 H110 e111) H110 e111 fun v113 H114 e115 =>
 I.gd v107 true (fun K117 => I.load 3 H114 v113 fun v121 =>
 K117 v121 H114 e115) H114 e115 fun v118 H119 e120 =>
 I.gd v107 true (fun K122 => I.bin .geq 3 false v109 v118 fun v126 =>
 K122 v126 H119 e120) H119 e120 fun v123 H124 e125 =>
 I.pick v107 v123 (.bool false) fun v127 =>
 I.cond v127 (
 KK 159 [(.str ⟨#[98, 101, 104, 105, 110, 100]⟩)] H124 fun v128 H129 f130 => (fun e131 =>
 k55 .ret [(0, (lookQ L52 0)), (1, (lookQ L52 1)), (2, (lookQ L52 2)), (4, (lookQ L52 4)), (5, (lookQ L52 5)), (6, .nils), (7, v128), (8, (lookQ L52 8)), (9, (lookQ L52 9)), (10, (lookQ L52 10)), (11, (lookQ L52 11)), (12, (lookQ L52 41)), (13, v58), (14, v102), (15, v103), (25, (lookQ L52 25)), (34, (lookQ L52 34)), (39, (lookQ L52 39)), (40, (lookQ L52 40)), (41, (lookQ L52 41)), (42, v56), (56, v92), (74, v127)] H129 e131) (escQ f130 e125)) (
 I.bin .add 3 true (lookQ L52 41) (.int .i64 1) fun v132 =>
 k55 .normal [(0, (lookQ L52 0)), (1, (lookQ L52 1)), (2, (lookQ L52 2)), (4, (lookQ L52 4)), (5, (lookQ L52 5)), (6, (lookQ L52 6)), (7, (lookQ L52 7)), (8, (lookQ L52 8)), (9, (lookQ L52 9)), (10, (lookQ L52 10)), (11, (lookQ L52 11)), (12, (lookQ L52 41)), (13, v58), (14, v102), (15, v103), (25, (lookQ L52 25)), (34, (lookQ L52 34)), (39, (lookQ L52 39)), (40, (lookQ L52 40)), (41, v132), (42, v56), (56, v92), (74, v127)] H124 e125)) (escQ f100 e90))) (
 k55 (.exit 0) [(0, (lookQ L52 0)), (1, (lookQ L52 1)), (2, (lookQ L52 2)), (4, (lookQ L52 4)), (5, (lookQ L52 5)), (6, (lookQ L52 6)), (7, (lookQ L52 7)), (8, (lookQ L52 8)), (9, (lookQ L52 9)), (10, (lookQ L52 10)), (11, (lookQ L52 11)), (12, (lookQ L52 12)), (13, (lookQ L52 13)), (14, (lookQ L52 14)), (15, (lookQ L52 15)), (25, (lookQ L52 25)), (34, (lookQ L52 34)), (39, (lookQ L52 39)), (40, (lookQ L52 40)), (41, (lookQ L52 41)), (42, v56), (56, (lookQ L52 56)), (74, (lookQ L52 74))] H53 e54)) fuel L50 H51 e48 (selK I.bot [(0, (fun L133 H134 e135 =>
 I.fin n0 H134 e135 [(lookQ L133 9), .nili] k))] (fun L136 H137 e138 =>
 I.fin n0 H137 e138 [(lookQ L136 6), (lookQ L136 7)] k))) (escQ f47 e44)) (escQ f43 e33))) (escQ f32 e22)))) (escQ f21 e18)) (escQ f17 e11)) (escQ f10 false)) (lenQ H)
  | _ => I.bot⟩
theorem ok155 (R : Type) : TxtOk Tryz.prog U ann 155 (r155 R) := fun I fuel KO KK args H k => match args with
  | [] => .inl rfl
  | [_] => .inl rfl
  | [_, _] => .inl rfl
  | [a0, a1, a2] => .inr (by kernel_rfl)
  | _ :: _ :: _ :: _ :: _ => .inl rfl
/-- silt/usage.Free -/
noncomputable def r156 (R : Type) : Bx (Txt R) := ⟨fun I fuel KO KK args H k => match args with
  | [a0, a1] => (fun n0 =>
 I.len a0 fun v0 =>
 I.head n0 1826 [(0, a0), (1, a1), (4, .nils), (5, .nils), (6, .bad), (7, .bad), (8, a0), (9, v0), (10, (.int .i64 0)), (11, .bad), (15, .bad), (19, .bad)] H false fun L1 H2 => loopM I n0 1826 (fun L3 H4 e5 k6 =>
 I.bin .lss 3 false (lookQ L3 10) (lookQ L3 9) fun v7 =>
 I.cond v7 (
 I.join (fun L8 H9 e10 =>
 I.bin .add 3 true (lookQ L8 10) (.int .i64 1) fun v11 =>
 k6 .normal [(0, (lookQ L8 0)), (1, (lookQ L8 1)), (4, (lookQ L8 4)), (5, (lookQ L8 5)), (6, (lookQ L8 6)), (7, (lookQ L8 7)), (8, (lookQ L8 8)), (9, (lookQ L8 9)), (10, v11), (11, (lookQ L8 11)), (15, (lookQ L8 15)), (19, (lookQ L8 19))] H9 e10) fun j12 =>
 I.ia 28 (lookQ L3 8) (lookQ L3 10) fun v13 =>
 I.load 3 H4 v13 fun v14 =>
 I.join (fun L15 H16 e17 =>
 I.bslice 28 1 [(0, (lookQ L15 6))] H16 fun v18 H19 =>
 I.blt true .append #[28, 28] n0 [(lookQ L15 5), v18] H19 fun v20 H21 f22 => (fun e23 =>
 j12 [(0, (lookQ L15 0)), (1, (lookQ L15 1)), (4, (lookQ L15 4)), (5, v20), (6, (lookQ L15 6)), (7, (lookQ L15 7)), (8, (lookQ L15 8)), (9, (lookQ L15 9)), (10, (lookQ L15 10)), (11, (lookQ L15 11)), (15, (lookQ L15 15)), (19, (lookQ L15 19))] H21 e23) (escQ f22 e17)) fun j24 =>
 I.join (fun L25 H26 e27 =>
 j12 [(0, (lookQ L25 0)), (1, (lookQ L25 1)), (4, (lookQ L25 4)), (5, (lookQ L25 5)), (6, (lookQ L25 6)), (7, (lookQ L25 7)), (8, (lookQ L25 8)), (9, (lookQ L25 9)), (10, (lookQ L25 10)), (11, (lookQ L25 11)), (15, (lookQ L25 15)), (19, (lookQ L25 19))] H26 e27) fun j28 =>
 I.bin .eql 3 false (lookQ L3 10) (lookQ L3 1) fun v29 =>
 I.cond v29 (
 j28 [(0, (lookQ L3 0)), (1, (lookQ L3 1)), (4, (lookQ L3 4)), (5, (lookQ L3 5)), (6, (lookQ L3 10)), (7, v14), (8, (lookQ L3 8)), (9, (lookQ L3 9)), (10, (lookQ L3 10)), (11, v7), (15, v29), (19, (lookQ L3 19))] H4 e5) (
 I.bin .neq 3 true v14 (.int .i64 0) fun v30 =>
 I.cond v30 (
 j28 [(0, (lookQ L3 0)), (1, (lookQ L3 1)), (4, (lookQ L3 4)), (5, (lookQ L3 5)), (6, (lookQ L3 10)), (7, v14), (8, (lookQ L3 8)), (9, (lookQ L3 9)), (10, (lookQ L3 10)), (11, v7), (15, v29), (19, v30)] H4 e5) (
 j24 [(0, (lookQ L3 0)), (1, (lookQ L3 1)), (4, (lookQ L3 4)), (5, (lookQ L3 5)), (6, (lookQ L3 10)), (7, v14), (8, (lookQ L3 8)), (9, (lookQ L3 9)), (10, (lookQ L3 10)), (11, v7), (15, v29), (19, v30)] H4 e5))) (
 k6 (.exit 0) [(0, (lookQ L3 0)), (1, (lookQ L3 1)), (4, (lookQ L3 4)), (5, (lookQ L3 5)), (6, (lookQ L3 6)), (7, (lookQ L3 7)), (8, (lookQ L3 8)), (9, (lookQ L3 9)), (10, (lookQ L3 10)), (11, v7), (15, (lookQ L3 15)), (19, (lookQ L3 19))] H4 e5)) fuel L1 H2 false (selK I.bot [(0, (fun L31 H32 e33 =>
 I.fin n0 H32 e33 [(lookQ L31 5)] k)), (3, (fun L34 H35 e36 =>
 I.bot)), (4, (fun L37 H38 e39 =>
 I.bot)), (2, (fun L40 H41 e42 =>
 I.bot)), (1, (fun L43 H44 e45 =>
 I.bot))] (fun _ _ _ => I.bot))) (lenQ H)
  | _ => I.bot⟩
theorem ok156 (R : Type) : TxtOk Tryz.prog U ann 156 (r156 R) := fun I fuel KO KK args H k => match args with
  | [] => .inl rfl
  | [_] => .inl rfl
  | [a0, a1] => .inr (by kernel_rfl)
  | _ :: _ :: _ :: _ => .inl rfl
/-- silt/scan.Read -/
noncomputable def r158 (R : Type) : Bx (Txt R) := ⟨fun I fuel KO KK args H k => match args with
  | [a0, a1, a2] => (fun n0 =>
 I.box a1 H fun v0 H1 =>
 I.box a2 H1 fun v2 H3 =>
 I.alloc 30 H3 fun v4 H5 =>
 I.load 24 H5 v0 fun v6 =>
 I.load 30 H5 v2 fun v7 =>
 KK 78 [a0, v6, v7] H5 fun v8 H9 f10 => (fun e11 =>
 I.ext v8 0 fun v12 =>
 I.ext v8 1 fun v13 =>
 I.bin .neq 33 true v13 (.int .i64 0) fun v14 =>
 I.cond v14 (
 I.build 30 [] fun v15 =>
 I.store n0 30 H9 v4 v15 fun H16 f17 => (fun e18 =>
 I.load 30 H16 v4 fun v19 =>
 I.fin n0 H16 e18 [.nils, v19, v13] k) (escQ f17 e11)) (
 KK 90 [v12] H9 fun v20 H21 f22 => (fun e23 =>
 I.store n0 30 H21 v2 v20 fun H24 f25 => (fun e26 =>
 I.load 24 H24 v0 fun v27 =>
 I.build 359 [(0, a0), (1, v27)] fun v28 =>
 I.alloc 359 H24 fun v29 H30 =>
 I.store n0 359 H30 v29 v28 fun H31 f32 => (fun e33 =>
 I.head n0 6304 [(0, a0), (1, a1), (2, a2), (4, v0), (5, v2), (6, .nils), (7, v4), (8, (.int .i64 0)), (9, v12), (10, v13), (11, v29), (12, .nils), (13, .bad), (14, .bad), (15, .bad), (24, v14), (39, .bad), (45, .bad)] H31 e33 fun L34 H35 => loopM I n0 6304 (fun L36 H37 e38 k39 =>
 I.load 359 H37 (lookQ L36 11) fun v40 =>
 I.load 30 H37 (lookQ L36 5) fun v41 =>
 KK 227 [v40, v41] H37 fun v42 H43 f44 => (fun e45 =>
 I.ext v42 0 fun v46 =>
 I.ext v42 1 fun v47 =>
 I.ext v42 2 fun v48 =>
 I.alloc 260 H43 fun v49 H50 =>
 I.alloc 30 H50 fun v51 H52 =>
 I.store n0 260 H52 v49 v46 fun H53 f54 => (fun e55 =>
 I.store n0 30 H53 v51 v47 fun H56 f57 => (fun e58 =>
 I.mkI 33 (.int .i64 17) fun v59 =>
 KK 143 [v48, v59] H56 fun v60 H61 f62 => (fun e63 =>
 I.cond v60 (
 I.load 30 H61 (lookQ L36 5) fun v64 =>
 I.store n0 30 H61 (lookQ L36 7) v64 fun H65 f66 => (fun e67 =>
 k39 .ret [(0, (lookQ L36 0)), (1, (lookQ L36 1)), (2, (lookQ L36 2)), (4, (lookQ L36 4)), (5, (lookQ L36 5)), (6, (lookQ L36 12)), (7, (lookQ L36 7)), (8, (.int .i64 0)), (9, (lookQ L36 9)), (10, (lookQ L36 10)), (11, (lookQ L36 11)), (12, (lookQ L36 12)), (13, v49), (14, v51), (15, v48), (24, (lookQ L36 24)), (39, v60), (45, (lookQ L36 45))] H65 e67) (escQ f66 e63)) (
 I.bin .neq 137 true v48 .nili fun v68 =>
 I.cond v68 (
 I.build 30 [] fun v69 =>
 KK 228 [v48] H61 fun v70 H71 f72 => (fun e73 =>
 I.store n0 30 H71 (lookQ L36 7) v69 fun H74 f75 => (fun e76 =>
 k39 .ret [(0, (lookQ L36 0)), (1, (lookQ L36 1)), (2, (lookQ L36 2)), (4, (lookQ L36 4)), (5, (lookQ L36 5)), (6, .nils), (7, (lookQ L36 7)), (8, v70), (9, (lookQ L36 9)), (10, (lookQ L36 10)), (11, (lookQ L36 11)), (12, (lookQ L36 12)), (13, v49), (14, v51), (15, v48), (24, (lookQ L36 24)), (39, v60), (45, v68)] H74 e76) (escQ f75 e73)) (escQ f72 e63)) (
 I.load 260 H61 v49 fun v77 =>
 I.load 30 H61 v51 fun v78 =>
 I.bslice 255 1 [(0, v77)] H61 fun v79 H80 =>
 I.blt true .append #[255, 255] n0 [(lookQ L36 12), v79] H80 fun v81 H82 f83 => (fun e84 =>
 I.store n0 30 H82 (lookQ L36 5) v78 fun H85 f86 => (fun e87 =>
 I.load 30 H80 v51 fun v88 =>
 I.same v88 v78 (
 I.load 30 H82 v51 fun v89 =>
 I.same v89 v78 (
 k39 .normal [(0, (lookQ L36 0)), (1, (lookQ L36 1)), (2, (lookQ L36 2)), (4, (lookQ L36 4)), (5, (lookQ L36 5)), (6, (lookQ L36 6)), (7, (lookQ L36 7)), (8, (lookQ L36 8)), (9, (lookQ L36 9)), (10, (lookQ L36 10)), (11, (lookQ L36 11)), (12, v81), (13, v49), (14, v51), (15, v48), (24, (lookQ L36 24)), (39, v60), (45, v68)] H85 e87))) (escQ f86 e84)) (escQ f83 e63)))) (escQ f62 e58)) (escQ f57 e55)) (escQ f54 e45)) (escQ f44 e38)) fuel L34 H35 e33 (selK I.bot [] (fun L90 H91 e92 =>
 I.load 30 H91 (lookQ L90 7) fun v93 =>
 I.fin n0 H91 e92 [(lookQ L90 6), v93, (lookQ L90 8)] k))) (escQ f32 e26)) (escQ f25 e23)) (escQ f22 e11))) (escQ f10 false)) (lenQ H)
  | _ => I.bot⟩
theorem ok158 (R : Type) : TxtOk Tryz.prog U ann 158 (r158 R) := fun I fuel KO KK args H k => match args with
  | [] => .inl rfl
  | [_] => .inl rfl
  | [_, _] => .inl rfl
  | [a0, a1, a2] => .inr (by kernel_rfl)
  | _ :: _ :: _ :: _ :: _ => .inl rfl
/-- errors.As -/
noncomputable def r161 (R : Type) : Bx (Txt R) := ⟨fun I fuel KO KK args H k => match args with
  | [a0, a1] => (fun n0 =>
 I.bin .eql 137 true a0 .nili fun v0 =>
 I.cond v0 (
 I.fin n0 H false [(.bool false)] k) (
 I.join (fun L1 H2 e3 =>
 I.extern 231 [(lookQ L1 1)] H2 fun v4 H5 f6 => (fun e7 =>
 I.alloc 366 H5 fun v8 H9 =>
 I.store n0 366 H9 v8 v4 fun H10 f11 => (fun e12 =>
 I.load 366 H10 v8 fun v13 =>
 I.extern 232 [v13] H10 fun v14 H15 f16 => (fun e17 =>
 I.join (fun L18 H19 e20 =>
 I.inv KK (lookQ L18 6) "Elem" [] H19 fun v21 H22 f23 => (fun e24 =>
 I.join (fun L25 H26 e27 =>
 I.load 366 H26 (lookQ L25 5) fun v28 =>
 KK 234 [(lookQ L25 0), (lookQ L25 1), v28, (lookQ L25 7)] H26 fun v29 H30 f31 => (fun e32 =>
 I.fin n0 H30 e32 [v29] k) (escQ f31 e27)) fun j33 =>
 I.inv KK v21 "Kind" [] H22 fun v34 H35 f36 => (fun e37 =>
 I.bin .neq 369 true v34 (.int .u8 20) fun v38 =>
 I.gd v38 true (fun K39 => K39 v21 H35 e37) H35 e37 fun v40 H41 e42 =>
 I.gd v38 true (fun K43 => I.glob 343 0 fun v47 =>
 K43 v47 H41 e42) H41 e42 fun v44 H45 e46 =>
 I.gd v38 true (fun K48 => I.inv KK v40 "Implements" [v44] H45 fun v52 H53 f54 => (fun e55 =>
 K48 v52 H53 e55) (escQ f54 e46)) H45 e46 fun v49 H50 e51 =>
 I.gd v38 true (fun K56 => I.un .not v49 fun v60 =>
 K56 v60 H50 e51) H50 e51 fun v57 H58 e59 =>
 I.pick v38 v57 (.bool false) fun v61 =>
 I.cond v61 (
 I.mkI 9 (.str ⟨#[101, 114, 114, 111, 114, 115, 58, 32, 42, 116, 97, 114, 103, 101, 116, 32, 109, 117, 115, 116, 32, 98, 101, 32, 105, 110, 116, 101, 114, 102, 97, 99, 101, 32, 111, 114, 32, 105, 109, 112, 108, 101, 109, 101, 110, 116, 32, 101, 114, 114, 111, 114]⟩) fun v62 =>
 I.bot) (
 j33 [(0, (lookQ L18 0)), (1, (lookQ L18 1)), (4, (lookQ L18 4)), (5, (lookQ L18 5)), (6, (lookQ L18 6)), (7, v21), (9, (lookQ L18 9)), (11, (lookQ L18 11)), (23, (lookQ L18 23)), (35, v61)] H58 e59)) (escQ f36 e24)) (escQ f23 e20)) fun j63 =>
 I.inv KK v14 "Kind" [] H15 fun v64 H65 f66 => (fun e67 =>
 I.bin .neq 369 true v64 (.int .u8 22) fun v68 =>
 I.gd v68 false (fun K69 => I.load 366 H65 v8 fun v73 =>
 K69 v73 H65 e67) H65 e67 fun v70 H71 e72 =>
 I.gd v68 false (fun K74 => I.extern 233 [v70] H71 fun v78 H79 f80 => (fun e81 =>
 K74 v78 H79 e81) (escQ f80 e72)) H71 e72 fun v75 H76 e77 =>
 I.pick v68 (.bool true) v75 fun v82 =>
 I.cond v82 (
 I.mkI 9 (.str ⟨#[101, 114, 114, 111, 114, 115, 58, 32, 116, 97, 114, 103, 101, 116, 32, 109, 117, 115, 116, 32, 98, 101, 32, 97, 32, 110, 111, 110, 45, 110, 105, 108, 32, 112, 111, 105, 110, 116, 101, 114]⟩) fun v83 =>
 I.bot) (
 j63 [(0, (lookQ L1 0)), (1, (lookQ L1 1)), (4, (lookQ L1 4)), (5, v8), (6, v14), (7, (lookQ L1 7)), (9, (lookQ L1 9)), (11, (lookQ L1 11)), (23, v82), (35, (lookQ L1 35))] H76 e77)) (escQ f66 e17)) (escQ f16 e12)) (escQ f11 e7)) (escQ f6 e3)) fun j84 =>
 I.bin .eql 20 true a1 .nili fun v85 =>
 I.cond v85 (
 I.mkI 9 (.str ⟨#[101, 114, 114, 111, 114, 115, 58, 32, 116, 97, 114, 103, 101, 116, 32, 99, 97, 110, 110, 111, 116, 32, 98, 101, 32, 110, 105, 108]⟩) fun v86 =>
 I.bot) (
 j84 [(0, a0), (1, a1), (4, (.bool false)), (5, .bad), (6, .bad), (7, .bad), (9, v0), (11, v85), (23, .bad), (35, .bad)] H false))) (lenQ H)
  | _ => I.bot⟩
theorem ok161 (R : Type) : TxtOk Tryz.prog U ann 161 (r161 R) := fun I fuel KO KK args H k => match args with
  | [] => .inl rfl
  | [_] => .inl rfl
  | [a0, a1] => .inr (by kernel_rfl)
  | _ :: _ :: _ :: _ => .inl rfl
/-- (*silt/dev.Dev).tell -/
noncomputable def r162 (R : Type) : Bx (Txt R) := ⟨fun I fuel KO KK args H k => match args with
  | [a0, a1] => (fun n0 =>
 I.bin .eql 36 true a0 .nilp fun v0 =>
 I.cond v0 (
 I.fin n0 H false [(.int .i64 0)] k) (
 I.join (fun L1 H2 e3 =>
 I.fin n0 H2 e3 [(lookQ L1 5)] k) fun j4 =>
 I.join (fun L5 H6 e7 =>
 I.nil (lookQ L5 0) fun v8 =>
 I.fa 144 1 v8 fun v9 =>
 I.load 142 H6 v9 fun v10 =>
 I.len v10 fun v11 =>
 I.bin .add 3 false (lookQ L5 5) v11 fun v12 =>
 j4 [(0, (lookQ L5 0)), (1, (lookQ L5 1)), (4, (lookQ L5 4)), (5, v12), (7, (lookQ L5 7)), (9, (lookQ L5 9)), (10, (lookQ L5 10)), (12, (lookQ L5 12)), (14, (lookQ L5 14))] H6 e7) fun j13 =>
 I.bin .eql 3 true a1 (.int .i64 0) fun v14 =>
 I.cond v14 (
 I.nil a0 fun v15 =>
 I.fa 144 0 v15 fun v16 =>
 I.load 141 H v16 fun v17 =>
 I.len v17 fun v18 =>
 I.nil a0 fun v19 =>
 I.fa 144 1 v19 fun v20 =>
 I.load 142 H v20 fun v21 =>
 I.len v21 fun v22 =>
 I.bin .sub 3 false v18 v22 fun v23 =>
 j13 [(0, a0), (1, a1), (4, (.int .i64 0)), (5, v23), (7, v0), (9, a1), (10, v14), (12, .bad), (14, .bad)] H false) (
 I.bin .eql 3 true a1 (.int .i64 1) fun v24 =>
 I.cond v24 (
 j13 [(0, a0), (1, a1), (4, (.int .i64 0)), (5, (.int .i64 0)), (7, v0), (9, a1), (10, v14), (12, v24), (14, .bad)] H false) (
 I.bin .eql 3 true a1 (.int .i64 2) fun v25 =>
 I.cond v25 (
 I.nil a0 fun v26 =>
 I.fa 144 3 v26 fun v27 =>
 I.load 3 H v27 fun v28 =>
 j4 [(0, a0), (1, a1), (4, (.int .i64 0)), (5, v28), (7, v0), (9, a1), (10, v14), (12, v24), (14, v25)] H false) (
 j4 [(0, a0), (1, a1), (4, (.int .i64 0)), (5, (.int .i64 0)), (7, v0), (9, a1), (10, v14), (12, v24), (14, v25)] H false))))) (lenQ H)
  | _ => I.bot⟩
theorem ok162 (R : Type) : TxtOk Tryz.prog U ann 162 (r162 R) := fun I fuel KO KK args H k => match args with
  | [] => .inl rfl
  | [_] => .inl rfl
  | [a0, a1] => .inr (by kernel_rfl)
  | _ :: _ :: _ :: _ => .inl rfl
/-- silt/region.Encode -/
noncomputable def r165 (R : Type) : Bx (Txt R) := ⟨fun I fuel KO KK args H k => match args with
  | [a0] => (fun n0 =>
 I.box a0 H fun v0 H1 =>
 I.alloc 270 H1 fun v2 H3 =>
 I.load 27 H3 v0 fun v4 =>
 KK 238 [v4] H3 fun v5 H6 f7 => (fun e8 =>
 KK 237 [v5] H6 fun v9 H10 f11 => (fun e12 =>
 I.bin .neq 33 true v9 (.int .i64 0) fun v13 =>
 I.cond v13 (
 I.build 270 [] fun v14 =>
 I.store n0 270 H10 v2 v14 fun H15 f16 => (fun e17 =>
 I.load 270 H15 v2 fun v18 =>
 I.fin n0 H15 e17 [v18, v9] k) (escQ f16 e12)) (
 I.alloc 270 H10 fun v19 H20 =>
 I.head n0 65574 [(0, a0), (1, v0), (2, v2), (3, (.int .i64 0)), (4, v9), (5, v19), (6, .bad), (7, .bad), (8, .bad), (13, v13), (16, (.int .i64 0)), (17, .bad), (68, .bad), (69, .bad), (70, .bad)] H20 e12 fun L21 H22 => loopM I n0 65574 (fun L23 H24 e25 k26 =>
 I.bin .lss 3 true (lookQ L23 16) (.int .i64 2) fun v27 =>
 I.cond v27 (
 I.conv 3 5 (lookQ L23 16) H24 fun v28 H29 =>
 I.ia 270 (lookQ L23 5) (lookQ L23 16) fun v30 =>
 I.ia 269 v30 (.int .i64 0) fun v31 =>
 I.ia 270 (lookQ L23 5) (lookQ L23 16) fun v32 =>
 I.store n0 5 H29 v31 (.int .u8 82) fun H33 f34 => (fun e35 =>
 I.ia 269 v32 (.int .i64 1) fun v36 =>
 I.store n0 5 H33 v36 v28 fun H37 f38 => (fun e39 =>
 I.conv 3 5 (lookQ L23 16) H33 fun v40 H41 =>
 I.same v40 v28 (
 I.ia 270 (lookQ L23 5) (lookQ L23 16) fun v42 =>
 I.slice 269 H37 v42 (some (.int .i64 2)) none fun v43 =>
 I.fa 27 0 (lookQ L23 1) fun v44 =>
 I.load 22 H37 v44 fun v45 =>
 KK 239 [v45] H37 fun v46 H47 f48 => (fun e49 =>
 I.blt true .copy #[65, 65] n0 [v43, v46] H47 fun v50 H51 f52 => (fun e53 =>
 I.slice 269 H47 v42 (some (.int .i64 2)) none fun v54 =>
 I.same v54 v43 (
 I.bin .add 3 true (lookQ L23 16) (.int .i64 1) fun v55 =>
 k26 .normal [(0, (lookQ L23 0)), (1, (lookQ L23 1)), (2, (lookQ L23 2)), (3, (lookQ L23 3)), (4, (lookQ L23 4)), (5, (lookQ L23 5)), (6, (lookQ L23 16)), (7, (lookQ L23 7)), (8, (lookQ L23 8)), (13, (lookQ L23 13)), (16, v55), (17, v27), (68, (lookQ L23 68)), (69, (lookQ L23 69)), (70, (lookQ L23 70))] H51 e53)) (escQ f52 e49)) (escQ f48 e39))) (escQ f38 e35)) (escQ f34 e25)) (
 k26 (.exit 0) [(0, (lookQ L23 0)), (1, (lookQ L23 1)), (2, (lookQ L23 2)), (3, (lookQ L23 3)), (4, (lookQ L23 4)), (5, (lookQ L23 5)), (6, (lookQ L23 6)), (7, (lookQ L23 7)), (8, (lookQ L23 8)), (13, (lookQ L23 13)), (16, (lookQ L23 16)), (17, v27), (68, (lookQ L23 68)), (69, (lookQ L23 69)), (70, (lookQ L23 70))] H24 e25)) fuel L21 H22 e12 (selK I.bot [(0, (fun L56 H57 e58 =>
 I.ia 270 (lookQ L56 5) (.int .i64 0) fun v59 =>
 I.slice 269 H57 v59 (some (.int .i64 6)) none fun v60 =>
 I.fa 27 1 (lookQ L56 1) fun v61 =>
 I.fa 24 0 v61 fun v62 =>
 I.load 3 H57 v62 fun v63 =>
 I.conv 3 5 v63 H57 fun v64 H65 =>
 I.fa 27 1 (lookQ L56 1) fun v66 =>
 I.fa 24 1 v66 fun v67 =>
 I.load 3 H65 v67 fun v68 =>
 I.conv 3 5 v68 H65 fun v69 H70 =>
 I.fa 27 1 (lookQ L56 1) fun v71 =>
 I.fa 24 2 v71 fun v72 =>
 I.load 3 H70 v72 fun v73 =>
 I.conv 3 5 v73 H70 fun v74 H75 =>
 I.fa 27 1 (lookQ L56 1) fun v76 =>
 I.fa 24 3 v76 fun v77 =>
 I.load 3 H75 v77 fun v78 =>
 I.conv 3 5 v78 H75 fun v79 H80 =>
 I.fa 27 2 (lookQ L56 1) fun v81 =>
 I.load 3 H80 v81 fun v82 =>
 I.conv 3 5 v82 H80 fun v83 H84 =>
 I.fa 27 3 (lookQ L56 1) fun v85 =>
 I.load 3 H84 v85 fun v86 =>
 I.conv 3 5 v86 H84 fun v87 H88 =>
 I.bslice 65 6 [(0, v64), (1, v69), (2, v74), (3, v79), (4, v83), (5, v87)] H88 fun v89 H90 =>
 I.blt true .copy #[65, 65] n0 [v60, v89] H90 fun v91 H92 f93 => (fun e94 =>
 I.slice 269 H90 v59 (some (.int .i64 6)) none fun v95 =>
 I.same v95 v60 (
 I.ia 270 (lookQ L56 5) (.int .i64 0) fun v96 =>
 I.slice 269 H92 v96 (some (.int .i64 12)) none fun v97 =>
 I.fa 27 4 (lookQ L56 1) fun v98 =>
 I.load 22 H92 v98 fun v99 =>
 KK 239 [v99] H92 fun v100 H101 f102 => (fun e103 =>
 I.blt true .copy #[65, 65] n0 [v97, v100] H101 fun v104 H105 f106 => (fun e107 =>
 I.slice 269 H101 v96 (some (.int .i64 12)) none fun v108 =>
 I.same v108 v97 (
 I.fa 27 5 (lookQ L56 1) fun v109 =>
 I.load 25 H105 v109 fun v110 =>
 I.head n0 885443715538058477604 [(0, (lookQ L56 0)), (1, (lookQ L56 1)), (2, (lookQ L56 2)), (3, (lookQ L56 3)), (4, (lookQ L56 4)), (5, (lookQ L56 5)), (6, (lookQ L56 6)), (7, (lookQ L56 7)), (8, (lookQ L56 8)), (13, (lookQ L56 13)), (16, (lookQ L56 16)), (17, (lookQ L56 17)), (68, v110), (69, (.int .i64 0)), (70, (lookQ L56 70))] H105 e107 fun L111 H112 => loopM I n0 885443715538058477604 (fun L113 H114 e115 k116 =>
 I.bin .lss 3 true (lookQ L113 69) (.int .i64 8) fun v117 =>
 I.cond v117 (
 I.idx 25 (lookQ L113 68) (lookQ L113 69) fun v118 =>
 I.bin .mul 3 true (.int .i64 2) (lookQ L113 69) fun v119 =>
 I.bin .add 3 true (.int .i64 6) v119 fun v120 =>
 I.bin .mul 3 true (.int .i64 2) (lookQ L113 69) fun v121 =>
 I.bin .add 3 true (.int .i64 6) v121 fun v122 =>
 I.bin .add 3 true v122 (.int .i64 1) fun v123 =>
 I.conv 3 5 v118 H114 fun v124 H125 =>
 I.bin .shr 3 true v118 (.int .u64 8) fun v126 =>
 I.conv 3 5 v126 H125 fun v127 H128 =>
 I.ia 270 (lookQ L113 5) (.int .i64 1) fun v129 =>
 I.ia 269 v129 v120 fun v130 =>
 I.store n0 5 H128 v130 v124 fun H131 f132 => (fun e133 =>
 I.ia 270 (lookQ L113 5) (.int .i64 1) fun v134 =>
 I.ia 269 v134 v123 fun v135 =>
 I.store n0 5 H131 v135 v127 fun H136 f137 => (fun e138 =>
 I.bin .add 3 true (lookQ L113 69) (.int .i64 1) fun v139 =>
 k116 .normal [(0, (lookQ L113 0)), (1, (lookQ L113 1)), (2, (lookQ L113 2)), (3, (lookQ L113 3)), (4, (lookQ L113 4)), (5, (lookQ L113 5)), (6, (lookQ L113 6)), (7, (lookQ L113 69)), (8, v118), (13, (lookQ L113 13)), (16, (lookQ L113 16)), (17, (lookQ L113 17)), (68, (lookQ L113 68)), (69, v139), (70, v117)] H136 e138) (escQ f137 e133)) (escQ f132 e115)) (
 k116 (.exit 2) [(0, (lookQ L113 0)), (1, (lookQ L113 1)), (2, (lookQ L113 2)), (3, (lookQ L113 3)), (4, (lookQ L113 4)), (5, (lookQ L113 5)), (6, (lookQ L113 6)), (7, (lookQ L113 7)), (8, (lookQ L113 8)), (13, (lookQ L113 13)), (16, (lookQ L113 16)), (17, (lookQ L113 17)), (68, (lookQ L113 68)), (69, (lookQ L113 69)), (70, v117)] H114 e115)) fuel L111 H112 e107 (selK I.bot [(2, (fun L140 H141 e142 =>
 I.load 270 H141 (lookQ L140 5) fun v143 =>
 I.store n0 270 H141 (lookQ L140 2) v143 fun H144 f145 => (fun e146 =>
 I.load 270 H144 (lookQ L140 2) fun v147 =>
 I.fin n0 H144 e146 [v147, (.int .i64 0)] k) (escQ f145 e142)))] (fun _ _ _ => I.bot)))) (escQ f106 e103)) (escQ f102 e94))) (escQ f93 e58)))] (fun _ _ _ => I.bot)))) (escQ f11 e8)) (escQ f7 false)) (lenQ H)
  | _ => I.bot⟩
theorem ok165 (R : Type) : TxtOk Tryz.prog U ann 165 (r165 R) := fun I fuel KO KK args H k => match args with
  | [] => .inl rfl
  | [a0] => .inr (by kernel_rfl)
  | _ :: _ :: _ => .inl rfl
/-- (*silt/dev.Dev).Write -/
noncomputable def r166 (R : Type) : Bx (Txt R) := ⟨fun I fuel KO KK args H k => match args with
  | [a0, a1, a2] => (fun n0 =>
 I.box a2 H fun v0 H1 =>
 KK 240 [a0, a1] H1 fun v2 H3 f4 => (fun e5 =>
 I.un .not v2 fun v6 =>
 I.cond v6 (
 I.fin n0 H3 e5 [(.int .i64 1)] k) (
 KK 241 [a0] H3 fun v7 H8 f9 => (fun e10 =>
 I.bin .neq 33 true v7 (.int .i64 0) fun v11 =>
 I.cond v11 (
 I.fin n0 H8 e10 [v7] k) (
 I.nil a0 fun v12 =>
 I.fa 144 1 v12 fun v13 =>
 I.load 142 H8 v13 fun v14 =>
 I.load 269 H8 v0 fun v15 =>
 I.build 279 [(0, a1), (1, v15)] fun v16 =>
 I.bslice 142 1 [(0, v16)] H8 fun v17 H18 =>
 I.blt true .append #[142, 142] n0 [v14, v17] H18 fun v19 H20 f21 => (fun e22 =>
 I.nil a0 fun v23 =>
 I.fa 144 1 v23 fun v24 =>
 I.store n0 142 H20 v24 v19 fun H25 f26 => (fun e27 =>
 I.load 142 H18 v13 fun v28 =>
 I.same v28 v14 (
 I.fin n0 H25 e27 [(.int .i64 0)] k)) (escQ f26 e22)) (escQ f21 e10))) (escQ f9 e5))) (escQ f4 false)) (lenQ H)
  | _ => I.bot⟩
theorem ok166 (R : Type) : TxtOk Tryz.prog U ann 166 (r166 R) := fun I fuel KO KK args H k => match args with
  | [] => .inl rfl
  | [_] => .inl rfl
  | [_, _] => .inl rfl
  | [a0, a1, a2] => .inr (by kernel_rfl)
  | _ :: _ :: _ :: _ :: _ => .inl rfl
/-- (*silt/dev.Dev).Flush -/
noncomputable def r167 (R : Type) : Bx (Txt R) := ⟨fun I fuel KO KK args H k => match args with
  | [a0] => (fun n0 =>
 I.bin .eql 36 true a0 .nilp fun v0 =>
 I.cond v0 (
 I.fin n0 H false [(.int .i64 1)] k) (
 KK 241 [a0] H fun v1 H2 f3 => (fun e4 =>
 I.bin .neq 33 true v1 (.int .i64 0) fun v5 =>
 I.cond v5 (
 I.fin n0 H2 e4 [v1] k) (
 I.nil a0 fun v6 =>
 I.fa 144 1 v6 fun v7 =>
 I.load 142 H2 v7 fun v8 =>
 I.len v8 fun v9 =>
 I.head n0 458753 [(0, a0), (2, (.int .i64 0)), (3, v1), (5, .bad), (7, v0), (11, v5), (16, v8), (17, v9), (18, (.int .i64 0)), (19, .bad)] H2 e4 fun L10 H11 => loopM I n0 458753 (fun L12 H13 e14 k15 =>
 I.bin .lss 3 false (lookQ L12 18) (lookQ L12 17) fun v16 =>
 I.cond v16 (
 I.ia 142 (lookQ L12 16) (lookQ L12 18) fun v17 =>
 I.load 279 H13 v17 fun v18 =>
 I.alloc 279 H13 fun v19 H20 =>
 I.store n0 279 H20 v19 v18 fun H21 f22 => (fun e23 =>
 I.nil (lookQ L12 0) fun v24 =>
 I.fa 144 0 v24 fun v25 =>
 I.load 141 H21 v25 fun v26 =>
 I.fa 279 0 v19 fun v27 =>
 I.load 3 H21 v27 fun v28 =>
 I.fa 279 1 v19 fun v29 =>
 I.load 269 H21 v29 fun v30 =>
 I.ia 141 v26 v28 fun v31 =>
 I.store n0 269 H21 v31 v30 fun H32 f33 => (fun e34 =>
 I.bin .add 3 true (lookQ L12 18) (.int .i64 1) fun v35 =>
 k15 .normal [(0, (lookQ L12 0)), (2, (lookQ L12 2)), (3, (lookQ L12 3)), (5, v19), (7, (lookQ L12 7)), (11, (lookQ L12 11)), (16, (lookQ L12 16)), (17, (lookQ L12 17)), (18, v35), (19, v16)] H32 e34) (escQ f33 e23)) (escQ f22 e14)) (
 k15 (.exit 0) [(0, (lookQ L12 0)), (2, (lookQ L12 2)), (3, (lookQ L12 3)), (5, (lookQ L12 5)), (7, (lookQ L12 7)), (11, (lookQ L12 11)), (16, (lookQ L12 16)), (17, (lookQ L12 17)), (18, (lookQ L12 18)), (19, v16)] H13 e14)) fuel L10 H11 e4 (selK I.bot [(0, (fun L36 H37 e38 =>
 I.nil (lookQ L36 0) fun v39 =>
 I.fa 144 1 v39 fun v40 =>
 I.store n0 142 H37 v40 .nils fun H41 f42 => (fun e43 =>
 I.fin n0 H41 e43 [(.int .i64 0)] k) (escQ f42 e38)))] (fun _ _ _ => I.bot)))) (escQ f3 false))) (lenQ H)
  | _ => I.bot⟩
theorem ok167 (R : Type) : TxtOk Tryz.prog U ann 167 (r167 R) := fun I fuel KO KK args H k => match args with
  | [] => .inl rfl
  | [a0] => .inr (by kernel_rfl)
  | _ :: _ :: _ => .inl rfl
/-- silt/journal.Good -/
noncomputable def r168 (R : Type) : Bx (Txt R) := ⟨fun I fuel KO KK args H k => match args with
  | [a0, a1] => (fun n0 =>
 I.box a0 H fun v0 H1 =>
 I.box a1 H1 fun v2 H3 =>
 I.load 24 H3 v0 fun v4 =>
 KK 73 [v4] H3 fun v5 H6 f7 => (fun e8 =>
 I.un .not v5 fun v9 =>
 I.gd v9 false (fun K10 => I.fa 30 0 v2 fun v14 =>
 K10 v14 H6 e8) H6 e8 fun v11 H12 e13 =>
 I.gd v9 false (fun K15 => I.load 3 H12 v11 fun v19 =>
 K15 v19 H12 e13) H12 e13 fun v16 H17 e18 =>
 I.gd v9 false (fun K20 => I.bin .lss 3 true v16 (.int .i64 0) fun v24 =>
 K20 v24 H17 e18) H17 e18 fun v21 H22 e23 =>
 I.pick v9 (.bool true) v21 fun v25 =>
 I.gd v25 false (fun K26 => I.fa 30 0 v2 fun v30 =>
 K26 v30 H22 e23) H22 e23 fun v27 H28 e29 =>
 I.gd v25 false (fun K31 => I.load 3 H28 v27 fun v35 =>
 K31 v35 H28 e29) H28 e29 fun v32 H33 e34 =>
 I.gd v25 false (fun K36 => I.fa 24 1 v0 fun v40 =>
 K36 v40 H33 e34) H33 e34 fun v37 H38 e39 =>
 I.gd v25 false (fun K41 => I.load 3 H38 v37 fun v45 =>
 K41 v45 H38 e39) H38 e39 fun v42 H43 e44 =>
 I.gd v25 false (fun K46 => I.bin .geq 3 false v32 v42 fun v50 =>
 K46 v50 H43 e44) H43 e44 fun v47 H48 e49 =>
 I.pick v25 (.bool true) v47 fun v51 =>
 I.gd v51 false (fun K52 => I.fa 30 1 v2 fun v56 =>
 K52 v56 H48 e49) H48 e49 fun v53 H54 e55 =>
 I.gd v51 false (fun K57 => I.load 3 H54 v53 fun v61 =>
 K57 v61 H54 e55) H54 e55 fun v58 H59 e60 =>
 I.gd v51 false (fun K62 => I.bin .lss 3 true v58 (.int .i64 0) fun v66 =>
 K62 v66 H59 e60) H59 e60 fun v63 H64 e65 =>
 I.pick v51 (.bool true) v63 fun v67 =>
 I.gd v67 false (fun K68 => I.fa 30 1 v2 fun v72 =>
 K68 v72 H64 e65) H64 e65 fun v69 H70 e71 =>
 I.gd v67 false (fun K73 => I.load 3 H70 v69 fun v77 =>
 K73 v77 H70 e71) H70 e71 fun v74 H75 e76 =>
 I.gd v67 false (fun K78 => I.fa 24 2 v0 fun v82 =>
 K78 v82 H75 e76) H75 e76 fun v79 H80 e81 =>
 I.gd v67 false (fun K83 => I.load 3 H80 v79 fun v87 =>
 K83 v87 H80 e81) H80 e81 fun v84 H85 e86 =>
 I.gd v67 false (fun K88 => I.bin .gtr 3 false v74 v84 fun v92 =>
 K88 v92 H85 e86) H85 e86 fun v89 H90 e91 =>
 I.pick v67 (.bool true) v89 fun v93 =>
 I.cond v93 (
 I.fin n0 H90 e91 [(.bool false)] k) (
 I.fa 30 3 v2 fun v94 =>
 I.load 28 H90 v94 fun v95 =>
 I.len v95 fun v96 =>
 I.head n0 481036337196 [(0, a0), (1, a1), (2, v0), (3, v2), (4, (.bool false)), (5, (.int .i64 (-1))), (7, .bad), (34, v93), (36, v95), (37, v96), (38, (.int .i64 0)), (39, .bad), (56, .bad)] H90 e91 fun L97 H98 => loopM I n0 481036337196 (fun L99 H100 e101 k102 =>
 I.bin .lss 3 false (lookQ L99 38) (lookQ L99 37) fun v103 =>
 I.cond v103 (
 I.ia 28 (lookQ L99 36) (lookQ L99 38) fun v104 =>
 I.load 3 H100 v104 fun v105 =>
 I.bin .leq 3 false v105 (lookQ L99 5) fun v106 =>
 I.gd v106 false (fun K107 => K107 v105 H100 e101) H100 e101 fun v108 H109 e110 =>
 I.gd v106 false (fun K111 => I.fa 24 1 (lookQ L99 2) fun v115 =>
 K111 v115 H109 e110) H109 e110 fun v112 H113 e114 =>
 I.gd v106 false (fun K116 => I.load 3 H113 v112 fun v120 =>
 K116 v120 H113 e114) H113 e114 fun v117 H118 e119 =>
 I.gd v106 false (fun K121 => I.bin .geq 3 false v108 v117 fun v125 =>
 K121 v125 H118 e119) H118 e119 fun v122 H123 e124 =>
 I.pick v106 (.bool true) v122 fun v126 =>
 I.gd v126 false (fun K127 => K127 v105 H123 e124) H123 e124 fun v128 H129 e130 =>
 I.gd v126 false (fun K131 => I.fa 30 0 (lookQ L99 3) fun v135 =>
 K131 v135 H129 e130) H129 e130 fun v132 H133 e134 =>
 I.gd v126 false (fun K136 => I.load 3 H133 v132 fun v140 =>
 K136 v140 H133 e134) H133 e134 fun v137 H138 e139 =>
 I.gd v126 false (fun K141 => I.bin .eql 3 false v128 v137 fun v145 =>
 K141 v145 H138 e139) H138 e139 fun v142 H143 e144 =>
 I.pick v126 (.bool true) v142 fun v146 =>
 I.cond v146 (
 k102 .ret [(0, (lookQ L99 0)), (1, (lookQ L99 1)), (2, (lookQ L99 2)), (3, (lookQ L99 3)), (4, (.bool false)), (5, (lookQ L99 5)), (7, v105), (34, (lookQ L99 34)), (36, (lookQ L99 36)), (37, (lookQ L99 37)), (38, (lookQ L99 38)), (39, v103), (56, v146)] H143 e144) (
 I.bin .add 3 true (lookQ L99 38) (.int .i64 1) fun v147 =>
 k102 .normal [(0, (lookQ L99 0)), (1, (lookQ L99 1)), (2, (lookQ L99 2)), (3, (lookQ L99 3)), (4, (lookQ L99 4)), (5, v105), (7, v105), (34, (lookQ L99 34)), (36, (lookQ L99 36)), (37, (lookQ L99 37)), (38, v147), (39, v103), (56, v146)] H143 e144)) (
 k102 (.exit 0) [(0, (lookQ L99 0)), (1, (lookQ L99 1)), (2, (lookQ L99 2)), (3, (lookQ L99 3)), (4, (lookQ L99 4)), (5, (lookQ L99 5)), (7, (lookQ L99 7)), (34, (lookQ L99 34)), (36, (lookQ L99 36)), (37, (lookQ L99 37)), (38, (lookQ L99 38)), (39, v103), (56, (lookQ L99 56))] H100 e101)) fuel L97 H98 e91 (selK I.bot [(0, (fun L148 H149 e150 =>
 I.fin n0 H149 e150 [(.bool true)] k))] (fun L151 H152 e153 =>
 I.fin n0 H152 e153 [(lookQ L151 4)] k)))) (escQ f7 false)) (lenQ H)
  | _ => I.bot⟩
theorem ok168 (R : Type) : TxtOk Tryz.prog U ann 168 (r168 R) := fun I fuel KO KK args H k => match args with
  | [] => .inl rfl
  | [_] => .inl rfl
  | [a0, a1] => .inr (by kernel_rfl)
  | _ :: _ :: _ :: _ => .inl rfl
/-- (silt/journal.At).own -/
noncomputable def r169 (R : Type) : Bx (Txt R) := ⟨fun I fuel KO KK args H k => match args with
  | [a0] => (fun n0 =>
 I.box a0 H fun v0 H1 =>
 I.alloc 30 H1 fun v2 H3 =>
 I.fa 30 3 v0 fun v4 =>
 I.load 28 H3 v4 fun v5 =>
 KK 97 [v5] H3 fun v6 H7 f8 => (fun e9 =>
 I.fa 30 3 v0 fun v10 =>
 I.store n0 28 H7 v10 v6 fun H11 f12 => (fun e13 =>
 I.load 30 H11 v0 fun v14 =>
 I.store n0 30 H11 v2 v14 fun H15 f16 => (fun e17 =>
 I.load 30 H15 v2 fun v18 =>
 I.fin n0 H15 e17 [v18] k) (escQ f16 e13)) (escQ f12 e9)) (escQ f8 false)) (lenQ H)
  | _ => I.bot⟩
theorem ok169 (R : Type) : TxtOk Tryz.prog U ann 169 (r169 R) := fun I fuel KO KK args H k => match args with
  | [] => .inl rfl
  | [a0] => .inr (by kernel_rfl)
  | _ :: _ :: _ => .inl rfl
/-- (*silt/journal.Journal).put -/
noncomputable def r170 (R : Type) : Bx (Txt R) := ⟨fun I fuel KO KK args H k => match args with
  | [a0, a1] => (fun n0 =>
 I.nil a0 fun v0 =>
 I.fa 276 2 v0 fun v1 =>
 I.fa 30 2 v1 fun v2 =>
 I.load 22 H v2 fun v3 =>
 KK 242 [v3, a1] H fun v4 H5 f6 => (fun e7 =>
 I.ext v4 0 fun v8 =>
 I.ext v4 1 fun v9 =>
 I.ext v4 2 fun v10 =>
 I.bin .neq 33 true v10 (.int .i64 0) fun v11 =>
 I.gd v11 false (fun K12 => K12 v8 H5 e7) H5 e7 fun v13 H14 e15 =>
 I.gd v11 false (fun K16 => I.len v13 fun v20 =>
 K16 v20 H14 e15) H14 e15 fun v17 H18 e19 =>
 I.gd v11 false (fun K21 => K21 a0 H18 e19) H18 e19 fun v22 H23 e24 =>
 I.gd v11 false (fun K25 => I.nil v22 fun v29 =>
 K25 v29 H23 e24) H23 e24 fun v26 H27 e28 =>
 I.gd v11 false (fun K30 => I.fa 276 1 v26 fun v34 =>
 K30 v34 H27 e28) H27 e28 fun v31 H32 e33 =>
 I.gd v11 false (fun K35 => I.fa 24 2 v31 fun v39 =>
 K35 v39 H32 e33) H32 e33 fun v36 H37 e38 =>
 I.gd v11 false (fun K40 => I.load 3 H37 v36 fun v44 =>
 K40 v44 H37 e38) H37 e38 fun v41 H42 e43 =>
 I.gd v11 false (fun K45 => I.bin .gtr 3 false v17 v41 fun v49 =>
 K45 v49 H42 e43) H42 e43 fun v46 H47 e48 =>
 I.pick v11 (.bool true) v46 fun v50 =>
 I.cond v50 (
 KK 153 [(.int .i64 1), (.str ⟨#[105, 116, 101, 109, 115]⟩)] H47 fun v51 H52 f53 => (fun e54 =>
 I.fin n0 H52 e54 [.nils, v51] k) (escQ f53 e48)) (
 I.len v8 fun v55 =>
 KK 243 [a0, v55] H47 fun v56 H57 f58 => (fun e59 =>
 I.ext v56 0 fun v60 =>
 I.ext v56 1 fun v61 =>
 I.alloc 30 H57 fun v62 H63 =>
 I.store n0 30 H63 v62 v60 fun H64 f65 => (fun e66 =>
 I.bin .neq 137 true v61 .nili fun v67 =>
 I.cond v67 (
 I.fin n0 H64 e66 [.nils, v61] k) (
 I.nil a0 fun v68 =>
 I.fa 276 1 v68 fun v69 =>
 I.load 24 H64 v69 fun v70 =>
 I.fa 30 0 v62 fun v71 =>
 I.load 3 H64 v71 fun v72 =>
 I.fa 30 1 v62 fun v73 =>
 I.load 3 H64 v73 fun v74 =>
 KK 171 [v70, v72] H64 fun v75 H76 f77 => (fun e78 =>
 I.bin .add 3 false v75 v74 fun v79 =>
 I.load 3 H76 v73 fun v80 =>
 I.same v80 v74 (
 KK 244 [a0, v79, v8] H76 fun v81 H82 f83 => (fun e84 =>
 I.bin .neq 137 true v81 .nili fun v85 =>
 I.cond v85 (
 I.fin n0 H82 e84 [.nils, v81] k) (
 I.len v9 fun v86 =>
 I.head n0 2066035336255469791811 [(0, a0), (1, a1), (4, .nils), (5, .nili), (6, v8), (7, v9), (8, v10), (9, v62), (10, v61), (11, v79), (12, v81), (13, .nils), (15, .bad), (16, .bad), (39, v50), (49, v67), (66, v85), (68, v9), (69, v86), (70, (.int .i64 0)), (71, .bad), (75, .bad)] H82 e84 fun L87 H88 => loopM I n0 2066035336255469791811 (fun L89 H90 e91 k92 =>
 I.bin .lss 3 false (lookQ L89 70) (lookQ L89 69) fun v93 =>
 I.cond v93 (
 I.ia 28 (lookQ L89 68) (lookQ L89 70) fun v94 =>
 I.load 3 H90 v94 fun v95 =>
 I.join (fun L96 H97 e98 =>
 I.bslice 28 1 [(0, (lookQ L96 16))] H97 fun v99 H100 =>
 I.blt true .append #[28, 28] n0 [(lookQ L96 13), v99] H100 fun v101 H102 f103 => (fun e104 =>
 I.bin .add 3 true (lookQ L96 70) (.int .i64 1) fun v105 =>
 k92 .normal [(0, (lookQ L96 0)), (1, (lookQ L96 1)), (4, (lookQ L96 4)), (5, (lookQ L96 5)), (6, (lookQ L96 6)), (7, (lookQ L96 7)), (8, (lookQ L96 8)), (9, (lookQ L96 9)), (10, (lookQ L96 10)), (11, (lookQ L96 11)), (12, (lookQ L96 12)), (13, v101), (15, (lookQ L96 15)), (16, (lookQ L96 16)), (39, (lookQ L96 39)), (49, (lookQ L96 49)), (66, (lookQ L96 66)), (68, (lookQ L96 68)), (69, (lookQ L96 69)), (70, v105), (71, (lookQ L96 71)), (75, (lookQ L96 75))] H102 e104) (escQ f103 e98)) fun j106 =>
 I.bin .geq 3 true v95 (.int .i64 0) fun v107 =>
 I.cond v107 (
 I.bin .add 3 false (lookQ L89 11) v95 fun v108 =>
 j106 [(0, (lookQ L89 0)), (1, (lookQ L89 1)), (4, (lookQ L89 4)), (5, (lookQ L89 5)), (6, (lookQ L89 6)), (7, (lookQ L89 7)), (8, (lookQ L89 8)), (9, (lookQ L89 9)), (10, (lookQ L89 10)), (11, (lookQ L89 11)), (12, (lookQ L89 12)), (13, (lookQ L89 13)), (15, v95), (16, v108), (39, (lookQ L89 39)), (49, (lookQ L89 49)), (66, (lookQ L89 66)), (68, (lookQ L89 68)), (69, (lookQ L89 69)), (70, (lookQ L89 70)), (71, v93), (75, v107)] H90 e91) (
 j106 [(0, (lookQ L89 0)), (1, (lookQ L89 1)), (4, (lookQ L89 4)), (5, (lookQ L89 5)), (6, (lookQ L89 6)), (7, (lookQ L89 7)), (8, (lookQ L89 8)), (9, (lookQ L89 9)), (10, (lookQ L89 10)), (11, (lookQ L89 11)), (12, (lookQ L89 12)), (13, (lookQ L89 13)), (15, v95), (16, (.int .i64 0)), (39, (lookQ L89 39)), (49, (lookQ L89 49)), (66, (lookQ L89 66)), (68, (lookQ L89 68)), (69, (lookQ L89 69)), (70, (lookQ L89 70)), (71, v93), (75, v107)] H90 e91)) (
 k92 (.exit 0) [(0, (lookQ L89 0)), (1, (lookQ L89 1)), (4, (lookQ L89 4)), (5, (lookQ L89 5)), (6, (lookQ L89 6)), (7, (lookQ L89 7)), (8, (lookQ L89 8)), (9, (lookQ L89 9)), (10, (lookQ L89 10)), (11, (lookQ L89 11)), (12, (lookQ L89 12)), (13, (lookQ L89 13)), (15, (lookQ L89 15)), (16, (lookQ L89 16)), (39, (lookQ L89 39)), (49, (lookQ L89 49)), (66, (lookQ L89 66)), (68, (lookQ L89 68)), (69, (lookQ L89 69)), (70, (lookQ L89 70)), (71, v93), (75, (lookQ L89 75))] H90 e91)) fuel L87 H88 e84 (selK I.bot [(0, (fun L109 H110 e111 =>
 I.fa 30 1 (lookQ L109 9) fun v112 =>
 I.load 3 H110 v112 fun v113 =>
 I.len (lookQ L109 6) fun v114 =>
 I.bin .add 3 false v113 v114 fun v115 =>
 I.fa 30 1 (lookQ L109 9) fun v116 =>
 I.store n0 3 H110 v116 v115 fun H117 f118 => (fun e119 =>
 I.fa 30 2 (lookQ L109 9) fun v120 =>
 I.load 22 H117 v120 fun v121 =>
 KK 245 [(lookQ L109 1)] H117 fun v122 H123 f124 => (fun e125 =>
 I.conv 3 22 v122 H123 fun v126 H127 =>
 I.bin .add 22 false v121 v126 fun v128 =>
 I.fa 30 2 (lookQ L109 9) fun v129 =>
 I.store n0 22 H127 v129 v128 fun H130 f131 => (fun e132 =>
 I.load 22 H123 v120 fun v133 =>
 I.same v133 v121 (
 I.load 30 H130 (lookQ L109 9) fun v134 =>
 I.nil (lookQ L109 0) fun v135 =>
 I.fa 276 2 v135 fun v136 =>
 I.store n0 30 H130 v136 v134 fun H137 f138 => (fun e139 =>
 I.fin n0 H137 e139 [(lookQ L109 13), .nili] k) (escQ f138 e132))) (escQ f131 e125)) (escQ f124 e119)) (escQ f118 e111)))] (fun _ _ _ => I.bot)))) (escQ f83 e78))) (escQ f77 e66))) (escQ f65 e59)) (escQ f58 e48))) (escQ f6 false)) (lenQ H)
  | _ => I.bot⟩
theorem ok170 (R : Type) : TxtOk Tryz.prog U ann 170 (r170 R) := fun I fuel KO KK args H k => match args with
  | [] => .inl rfl
  | [_] => .inl rfl
  | [a0, a1] => .inr (by kernel_rfl)
  | _ :: _ :: _ :: _ => .inl rfl
/-- silt/plan.Seg -/
noncomputable def r171 (R : Type) : Bx (Txt R) := ⟨fun I fuel KO KK args H k => match args with
  | [a0, a1] => (fun n0 =>
 I.box a0 H fun v0 H1 =>
 I.load 24 H1 v0 fun v2 =>
 KK 73 [v2] H1 fun v3 H4 f5 => (fun e6 =>
 I.un .not v3 fun v7 =>
 I.gd v7 false (fun K8 => K8 a1 H4 e6) H4 e6 fun v9 H10 e11 =>
 I.gd v7 false (fun K12 => I.bin .lss 3 true v9 (.int .i64 0) fun v16 =>
 K12 v16 H10 e11) H10 e11 fun v13 H14 e15 =>
 I.pick v7 (.bool true) v13 fun v17 =>
 I.gd v17 false (fun K18 => K18 a1 H14 e15) H14 e15 fun v19 H20 e21 =>
 I.gd v17 false (fun K22 => I.fa 24 1 v0 fun v26 =>
 K22 v26 H20 e21) H20 e21 fun v23 H24 e25 =>
 I.gd v17 false (fun K27 => I.load 3 H24 v23 fun v31 =>
 K27 v31 H24 e25) H24 e25 fun v28 H29 e30 =>
 I.gd v17 false (fun K32 => I.bin .geq 3 false v19 v28 fun v36 =>
 K32 v36 H29 e30) H29 e30 fun v33 H34 e35 =>
 I.pick v17 (.bool true) v33 fun v37 =>
 I.cond v37 (
 I.fin n0 H34 e35 [(.int .i64 0)] k) (
 I.fa 24 2 v0 fun v38 =>
 I.load 3 H34 v38 fun v39 =>
 I.bin .mul 3 false a1 v39 fun v40 =>
 I.bin .add 3 true (.int .i64 4) v40 fun v41 =>
 I.fin n0 H34 e35 [v41] k)) (escQ f5 false)) (lenQ H)
  | _ => I.bot⟩
theorem ok171 (R : Type) : TxtOk Tryz.prog U ann 171 (r171 R) := fun I fuel KO KK args H k => match args with
  | [] => .inl rfl
  | [_] => .inl rfl
  | [a0, a1] => .inr (by kernel_rfl)
  | _ :: _ :: _ :: _ => .inl rfl
/-- (*silt/dev.Dev).Read -/
noncomputable def r172 (R : Type) : Bx (Txt R) := ⟨fun I fuel KO KK args H k => match args with
  | [a0, a1] => (fun n0 =>
 I.alloc 269 H fun v0 H1 =>
 KK 240 [a0, a1] H1 fun v2 H3 f4 => (fun e5 =>
 I.un .not v2 fun v6 =>
 I.cond v6 (
 I.build 269 [] fun v7 =>
 I.store n0 269 H3 v0 v7 fun H8 f9 => (fun e10 =>
 I.load 269 H8 v0 fun v11 =>
 I.fin n0 H8 e10 [v11, (.int .i64 1)] k) (escQ f9 e5)) (
 I.nil a0 fun v12 =>
 I.fa 144 0 v12 fun v13 =>
 I.load 141 H3 v13 fun v14 =>
 I.ia 141 v14 a1 fun v15 =>
 I.load 269 H3 v15 fun v16 =>
 I.alloc 269 H3 fun v17 H18 =>
 I.store n0 269 H18 v17 v16 fun H19 f20 => (fun e21 =>
 I.nil a0 fun v22 =>
 I.fa 144 1 v22 fun v23 =>
 I.load 142 H19 v23 fun v24 =>
 I.len v24 fun v25 =>
 I.head n0 117440594 [(0, a0), (1, a1), (4, v0), (5, (.int .i64 0)), (6, v17), (8, .bad), (12, v6), (24, v24), (25, v25), (26, (.int .i64 0)), (27, .bad), (33, .bad)] H19 e21 fun L26 H27 => loopM I n0 117440594 (fun L28 H29 e30 k31 =>
 I.bin .lss 3 false (lookQ L28 26) (lookQ L28 25) fun v32 =>
 I.cond v32 (
 I.join (fun L33 H34 e35 =>
 I.bin .add 3 true (lookQ L33 26) (.int .i64 1) fun v36 =>
 k31 .normal [(0, (lookQ L33 0)), (1, (lookQ L33 1)), (4, (lookQ L33 4)), (5, (lookQ L33 5)), (6, (lookQ L33 6)), (8, (lookQ L33 8)), (12, (lookQ L33 12)), (24, (lookQ L33 24)), (25, (lookQ L33 25)), (26, v36), (27, (lookQ L33 27)), (33, (lookQ L33 33))] H34 e35) fun j37 =>
 I.ia 142 (lookQ L28 24) (lookQ L28 26) fun v38 =>
 I.load 279 H29 v38 fun v39 =>
 I.alloc 279 H29 fun v40 H41 =>
 I.store n0 279 H41 v40 v39 fun H42 f43 => (fun e44 =>
 I.fa 279 0 v40 fun v45 =>
 I.load 3 H42 v45 fun v46 =>
 I.bin .eql 3 false v46 (lookQ L28 1) fun v47 =>
 I.cond v47 (
 I.fa 279 1 v40 fun v48 =>
 I.load 269 H42 v48 fun v49 =>
 I.store n0 269 H42 (lookQ L28 6) v49 fun H50 f51 => (fun e52 =>
 j37 [(0, (lookQ L28 0)), (1, (lookQ L28 1)), (4, (lookQ L28 4)), (5, (lookQ L28 5)), (6, (lookQ L28 6)), (8, v40), (12, (lookQ L28 12)), (24, (lookQ L28 24)), (25, (lookQ L28 25)), (26, (lookQ L28 26)), (27, v32), (33, v47)] H50 e52) (escQ f51 e44)) (
 j37 [(0, (lookQ L28 0)), (1, (lookQ L28 1)), (4, (lookQ L28 4)), (5, (lookQ L28 5)), (6, (lookQ L28 6)), (8, v40), (12, (lookQ L28 12)), (24, (lookQ L28 24)), (25, (lookQ L28 25)), (26, (lookQ L28 26)), (27, v32), (33, v47)] H42 e44)) (escQ f43 e30)) (
 k31 (.exit 0) [(0, (lookQ L28 0)), (1, (lookQ L28 1)), (4, (lookQ L28 4)), (5, (lookQ L28 5)), (6, (lookQ L28 6)), (8, (lookQ L28 8)), (12, (lookQ L28 12)), (24, (lookQ L28 24)), (25, (lookQ L28 25)), (26, (lookQ L28 26)), (27, v32), (33, (lookQ L28 33))] H29 e30)) fuel L26 H27 e21 (selK I.bot [(0, (fun L53 H54 e55 =>
 I.load 269 H54 (lookQ L53 6) fun v56 =>
 I.store n0 269 H54 (lookQ L53 4) v56 fun H57 f58 => (fun e59 =>
 I.load 269 H57 (lookQ L53 4) fun v60 =>
 I.fin n0 H57 e59 [v60, (.int .i64 0)] k) (escQ f58 e55)))] (fun _ _ _ => I.bot))) (escQ f20 e5))) (escQ f4 false)) (lenQ H)
  | _ => I.bot⟩
theorem ok172 (R : Type) : TxtOk Tryz.prog U ann 172 (r172 R) := fun I fuel KO KK args H k => match args with
  | [] => .inl rfl
  | [_] => .inl rfl
  | [a0, a1] => .inr (by kernel_rfl)
  | _ :: _ :: _ :: _ => .inl rfl
/-- silt/block.Decode -/
noncomputable def r173 (R : Type) : Bx (Txt R) := ⟨fun I fuel KO KK args H k => match args with
  | [a0] => (fun n0 =>
 I.box a0 H fun v0 H1 =>
 I.alloc 158 H1 fun v2 H3 =>
 I.ia 269 v0 (.int .i64 0) fun v4 =>
 I.load 5 H3 v4 fun v5 =>
 I.conv 5 3 v5 H3 fun v6 H7 =>
 I.ia 269 v0 (.int .i64 1) fun v8 =>
 I.load 5 H7 v8 fun v9 =>
 I.conv 5 3 v9 H7 fun v10 H11 =>
 I.build 158 [(0, v6), (1, v10)] fun v12 =>
 I.alloc 158 H11 fun v13 H14 =>
 I.store n0 158 H14 v13 v12 fun H15 f16 => (fun e17 =>
 I.slice 269 H15 v0 (some (.int .i64 2)) none fun v18 =>
 I.slice 269 H15 v0 (some (.int .i64 4)) none fun v19 =>
 KK 246 [v18] H15 fun v20 H21 f22 => (fun e23 =>
 I.conv 3 22 v20 H21 fun v24 H25 =>
 KK 246 [v19] H25 fun v26 H27 f28 => (fun e29 =>
 I.conv 3 22 v26 H27 fun v30 H31 =>
 I.bin .shl 22 true v30 (.int .u64 16) fun v32 =>
 I.bin .or 22 false v24 v32 fun v33 =>
 I.slice 269 H21 v0 (some (.int .i64 4)) none fun v34 =>
 I.same v34 v19 (
 I.conv 3 22 v20 H27 fun v35 H36 =>
 I.same v35 v24 (
 I.fa 158 0 v13 fun v37 =>
 I.load 3 H31 v37 fun v38 =>
 I.join (fun L39 H40 e41 =>
 I.load 158 H40 (lookQ L39 5) fun v42 =>
 KK 248 [v42, (lookQ L39 6)] H40 fun v43 H44 f45 => (fun e46 =>
 I.ext v43 0 fun v47 =>
 I.ext v43 1 fun v48 =>
 I.alloc 269 H44 fun v49 H50 =>
 I.store n0 269 H50 v49 v47 fun H51 f52 => (fun e53 =>
 I.bin .neq 33 true v48 (.int .i64 0) fun v54 =>
 I.gd v54 false (fun K55 => I.load 269 H51 v49 fun v59 =>
 K55 v59 H51 e53) H51 e53 fun v56 H57 e58 =>
 I.gd v54 false (fun K60 => I.load 269 H57 (lookQ L39 1) fun v64 =>
 K60 v64 H57 e58) H57 e58 fun v61 H62 e63 =>
 I.gd v54 false (fun K65 => I.bin .neq 269 false v56 v61 fun v69 =>
 K65 v69 H62 e63) H62 e63 fun v66 H67 e68 =>
 I.pick v54 (.bool true) v66 fun v70 =>
 I.cond v70 (
 I.build 158 [] fun v71 =>
 I.store n0 158 H67 (lookQ L39 2) v71 fun H72 f73 => (fun e74 =>
 I.load 158 H72 (lookQ L39 2) fun v75 =>
 I.fin n0 H72 e74 [v75, (.int .u32 0), (.int .i64 11)] k) (escQ f73 e68)) (
 I.load 158 H67 (lookQ L39 5) fun v76 =>
 I.store n0 158 H67 (lookQ L39 2) v76 fun H77 f78 => (fun e79 =>
 I.load 158 H77 (lookQ L39 2) fun v80 =>
 I.fin n0 H77 e79 [v80, (lookQ L39 6), (.int .i64 0)] k) (escQ f78 e68))) (escQ f52 e46)) (escQ f45 e41)) fun j81 =>
 I.bin .eql 3 true v38 (.int .i64 1) fun v82 =>
 I.cond v82 (
 I.slice 269 H31 v0 (some (.int .i64 6)) (some (.int .i64 38)) fun v83 =>
 I.s2a 40 v83 fun v84 =>
 I.load 40 H31 v84 fun v85 =>
 I.fa 158 2 v13 fun v86 =>
 I.store n0 40 H31 v86 v85 fun H87 f88 => (fun e89 =>
 j81 [(0, a0), (1, v0), (2, v2), (3, (.int .u32 0)), (4, (.int .i64 0)), (5, v13), (6, v33), (7, .bad), (8, .bad), (9, .bad), (26, v38), (27, v82), (33, .bad), (50, .bad), (52, .bad), (53, .bad), (76, .bad)] H87 e89) (escQ f88 e29)) (
 I.bin .eql 3 true v38 (.int .i64 2) fun v90 =>
 I.cond v90 (
 I.ia 269 v0 (.int .i64 6) fun v91 =>
 I.load 5 H31 v91 fun v92 =>
 I.conv 5 3 v92 H31 fun v93 H94 =>
 I.slice 269 H94 v0 (some (.int .i64 24)) none fun v95 =>
 I.fa 158 3 v13 fun v96 =>
 KK 246 [v95] H94 fun v97 H98 f99 => (fun e100 =>
 I.store n0 3 H98 v96 v93 fun H101 f102 => (fun e103 =>
 I.fa 158 5 v13 fun v104 =>
 I.store n0 3 H101 v104 v97 fun H105 f106 => (fun e107 =>
 I.load 5 H98 v91 fun v108 =>
 I.same v108 v92 (
 I.conv 5 3 v92 H98 fun v109 H110 =>
 I.same v109 v93 (
 I.ia 269 v0 (.int .i64 7) fun v111 =>
 I.load 5 H105 v111 fun v112 =>
 I.conv 5 3 v112 H105 fun v113 H114 =>
 I.blt true .min #[3, 3] n0 [v113, (.int .i64 16)] H114 fun v115 H116 f117 => (fun e118 =>
 I.bin .add 3 true (.int .i64 8) v115 fun v119 =>
 I.slice 269 H116 v0 (some (.int .i64 8)) (some v119) fun v120 =>
 KK 247 [v120] H116 fun v121 H122 f123 => (fun e124 =>
 I.fa 158 4 v13 fun v125 =>
 I.store n0 65 H122 v125 v121 fun H126 f127 => (fun e128 =>
 j81 [(0, a0), (1, v0), (2, v2), (3, (.int .u32 0)), (4, (.int .i64 0)), (5, v13), (6, v33), (7, .bad), (8, .bad), (9, .bad), (26, v38), (27, v82), (33, v90), (50, .bad), (52, .bad), (53, .bad), (76, .bad)] H126 e128) (escQ f127 e124)) (escQ f123 e118)) (escQ f117 e107)))) (escQ f106 e103)) (escQ f102 e100)) (escQ f99 e29)) (
 I.bin .eql 3 true v38 (.int .i64 3) fun v129 =>
 I.cond v129 (
 I.head n0 4503599627370598 [(0, a0), (1, v0), (2, v2), (3, (.int .u32 0)), (4, (.int .i64 0)), (5, v13), (6, v33), (7, .bad), (8, .bad), (9, .bad), (26, v38), (27, v82), (33, v90), (50, v129), (52, (.int .i64 0)), (53, .bad), (76, .bad)] H31 e29 fun L130 H131 => loopM I n0 4503599627370598 (fun L132 H133 e134 k135 =>
 I.bin .lss 3 true (lookQ L132 52) (.int .i64 8) fun v136 =>
 I.cond v136 (
 I.bin .mul 3 true (.int .i64 2) (lookQ L132 52) fun v137 =>
 I.bin .add 3 true (.int .i64 6) v137 fun v138 =>
 I.slice 269 H133 (lookQ L132 1) (some v138) none fun v139 =>
 KK 246 [v139] H133 fun v140 H141 f142 => (fun e143 =>
 I.fa 158 6 (lookQ L132 5) fun v144 =>
 I.ia 25 v144 (lookQ L132 52) fun v145 =>
 I.store n0 3 H141 v145 v140 fun H146 f147 => (fun e148 =>
 I.bin .add 3 true (lookQ L132 52) (.int .i64 1) fun v149 =>
 k135 .normal [(0, (lookQ L132 0)), (1, (lookQ L132 1)), (2, (lookQ L132 2)), (3, (lookQ L132 3)), (4, (lookQ L132 4)), (5, (lookQ L132 5)), (6, (lookQ L132 6)), (7, (lookQ L132 52)), (8, (lookQ L132 8)), (9, (lookQ L132 9)), (26, (lookQ L132 26)), (27, (lookQ L132 27)), (33, (lookQ L132 33)), (50, (lookQ L132 50)), (52, v149), (53, v136), (76, (lookQ L132 76))] H146 e148) (escQ f147 e143)) (escQ f142 e134)) (
 k135 (.exit 1) [(0, (lookQ L132 0)), (1, (lookQ L132 1)), (2, (lookQ L132 2)), (3, (lookQ L132 3)), (4, (lookQ L132 4)), (5, (lookQ L132 5)), (6, (lookQ L132 6)), (7, (lookQ L132 7)), (8, (lookQ L132 8)), (9, (lookQ L132 9)), (26, (lookQ L132 26)), (27, (lookQ L132 27)), (33, (lookQ L132 33)), (50, (lookQ L132 50)), (52, (lookQ L132 52)), (53, v136), (76, (lookQ L132 76))] H133 e134)) fuel L130 H131 e29 (selK I.bot [(1, (fun L150 H151 e152 =>
 j81 [(0, (lookQ L150 0)), (1, (lookQ L150 1)), (2, (lookQ L150 2)), (3, (lookQ L150 3)), (4, (lookQ L150 4)), (5, (lookQ L150 5)), (6, (lookQ L150 6)), (7, (lookQ L150 7)), (8, (lookQ L150 8)), (9, (lookQ L150 9)), (26, (lookQ L150 26)), (27, (lookQ L150 27)), (33, (lookQ L150 33)), (50, (lookQ L150 50)), (52, (lookQ L150 52)), (53, (lookQ L150 53)), (76, (lookQ L150 76))] H151 e152))] (fun _ _ _ => I.bot))) (
 j81 [(0, a0), (1, v0), (2, v2), (3, (.int .u32 0)), (4, (.int .i64 0)), (5, v13), (6, v33), (7, .bad), (8, .bad), (9, .bad), (26, v38), (27, v82), (33, v90), (50, v129), (52, .bad), (53, .bad), (76, .bad)] H31 e29)))))) (escQ f28 e23)) (escQ f22 e17)) (escQ f16 false)) (lenQ H)
  | _ => I.bot⟩
theorem ok173 (R : Type) : TxtOk Tryz.prog U ann 173 (r173 R) := fun I fuel KO KK args H k => match args with
  | [] => .inl rfl
  | [a0] => .inr (by kernel_rfl)
  | _ :: _ :: _ => .inl rfl
/-- silt/summary.Decode -/
noncomputable def r174 (R : Type) : Bx (Txt R) := ⟨fun I fuel KO KK args H k => match args with
  | [a0] => (fun n0 =>
 I.box a0 H fun v0 H1 =>
 I.alloc 290 H1 fun v2 H3 =>
 I.ia 269 v0 (.int .i64 1) fun v4 =>
 I.load 5 H3 v4 fun v5 =>
 I.bin .eql 5 true v5 (.int .u8 1) fun v6 =>
 I.build 290 [(1, v6)] fun v7 =>
 I.alloc 290 H3 fun v8 H9 =>
 I.store n0 290 H9 v8 v7 fun H10 f11 => (fun e12 =>
 I.head n0 8214 [(0, a0), (1, v0), (2, v2), (3, (.int .i64 0)), (4, v8), (5, .bad), (6, .bad), (7, .bad), (8, .bad), (13, (.int .i64 0)), (14, .bad), (32, .bad), (33, .bad), (34, .bad), (67, .bad)] H10 e12 fun L13 H14 => loopM I n0 8214 (fun L15 H16 e17 k18 =>
 I.bin .lss 3 true (lookQ L15 13) (.int .i64 4) fun v19 =>
 I.cond v19 (
 I.fa 290 0 (lookQ L15 4) fun v20 =>
 I.load 22 H16 v20 fun v21 =>
 I.bin .add 3 true (.int .i64 2) (lookQ L15 13) fun v22 =>
 I.ia 269 (lookQ L15 1) v22 fun v23 =>
 I.load 5 H16 v23 fun v24 =>
 I.conv 5 22 v24 H16 fun v25 H26 =>
 I.bin .mul 3 true (.int .i64 8) (lookQ L15 13) fun v27 =>
 I.bin .shl 22 false v25 v27 fun v28 =>
 I.bin .or 22 false v21 v28 fun v29 =>
 I.fa 290 0 (lookQ L15 4) fun v30 =>
 I.store n0 22 H26 v30 v29 fun H31 f32 => (fun e33 =>
 I.bin .add 3 true (lookQ L15 13) (.int .i64 1) fun v34 =>
 k18 .normal [(0, (lookQ L15 0)), (1, (lookQ L15 1)), (2, (lookQ L15 2)), (3, (lookQ L15 3)), (4, (lookQ L15 4)), (5, (lookQ L15 13)), (6, (lookQ L15 6)), (7, (lookQ L15 7)), (8, (lookQ L15 8)), (13, v34), (14, v19), (32, (lookQ L15 32)), (33, (lookQ L15 33)), (34, (lookQ L15 34)), (67, (lookQ L15 67))] H31 e33) (escQ f32 e17)) (
 k18 (.exit 0) [(0, (lookQ L15 0)), (1, (lookQ L15 1)), (2, (lookQ L15 2)), (3, (lookQ L15 3)), (4, (lookQ L15 4)), (5, (lookQ L15 5)), (6, (lookQ L15 6)), (7, (lookQ L15 7)), (8, (lookQ L15 8)), (13, (lookQ L15 13)), (14, v19), (32, (lookQ L15 32)), (33, (lookQ L15 33)), (34, (lookQ L15 34)), (67, (lookQ L15 67))] H16 e17)) fuel L13 H14 e12 (selK I.bot [(0, (fun L35 H36 e37 =>
 I.ia 269 (lookQ L35 1) (.int .i64 6) fun v38 =>
 I.load 5 H36 v38 fun v39 =>
 I.conv 5 3 v39 H36 fun v40 H41 =>
 I.blt true .min #[3, 3] n0 [v40, (.int .i64 24)] H41 fun v42 H43 f44 => (fun e45 =>
 I.head n0 12884901910 [(0, (lookQ L35 0)), (1, (lookQ L35 1)), (2, (lookQ L35 2)), (3, (lookQ L35 3)), (4, (lookQ L35 4)), (5, (lookQ L35 5)), (6, (lookQ L35 6)), (7, (lookQ L35 7)), (8, (lookQ L35 8)), (13, (lookQ L35 13)), (14, (lookQ L35 14)), (32, v42), (33, (.int .i64 0)), (34, (lookQ L35 34)), (67, (lookQ L35 67))] H43 e45 fun L46 H47 => loopM I n0 12884901910 (fun L48 H49 e50 k51 =>
 I.bin .lss 3 false (lookQ L48 33) (lookQ L48 32) fun v52 =>
 I.cond v52 (
 I.fa 290 2 (lookQ L48 4) fun v53 =>
 I.load 288 H49 v53 fun v54 =>
 I.bin .mul 3 true (.int .i64 2) (lookQ L48 33) fun v55 =>
 I.bin .add 3 true (.int .i64 7) v55 fun v56 =>
 I.ia 269 (lookQ L48 1) v56 fun v57 =>
 I.load 5 H49 v57 fun v58 =>
 I.conv 5 3 v58 H49 fun v59 H60 =>
 I.bin .mul 3 true (.int .i64 2) (lookQ L48 33) fun v61 =>
 I.bin .add 3 true (.int .i64 7) v61 fun v62 =>
 I.bin .add 3 true v62 (.int .i64 1) fun v63 =>
 I.ia 269 (lookQ L48 1) v63 fun v64 =>
 I.load 5 H60 v64 fun v65 =>
 I.conv 5 3 v65 H60 fun v66 H67 =>
 I.build 156 [(0, v59), (1, v66)] fun v68 =>
 I.bslice 288 1 [(0, v68)] H67 fun v69 H70 =>
 I.blt true .append #[288, 288] n0 [v54, v69] H70 fun v71 H72 f73 => (fun e74 =>
 I.fa 290 2 (lookQ L48 4) fun v75 =>
 I.store n0 288 H72 v75 v71 fun H76 f77 => (fun e78 =>
 I.load 288 H70 v53 fun v79 =>
 I.same v79 v54 (
 I.bin .add 3 true (lookQ L48 33) (.int .i64 1) fun v80 =>
 k51 .normal [(0, (lookQ L48 0)), (1, (lookQ L48 1)), (2, (lookQ L48 2)), (3, (lookQ L48 3)), (4, (lookQ L48 4)), (5, (lookQ L48 5)), (6, (lookQ L48 33)), (7, (lookQ L48 7)), (8, (lookQ L48 8)), (13, (lookQ L48 13)), (14, (lookQ L48 14)), (32, (lookQ L48 32)), (33, v80), (34, v52), (67, (lookQ L48 67))] H76 e78)) (escQ f77 e74)) (escQ f73 e50)) (
 k51 (.exit 2) [(0, (lookQ L48 0)), (1, (lookQ L48 1)), (2, (lookQ L48 2)), (3, (lookQ L48 3)), (4, (lookQ L48 4)), (5, (lookQ L48 5)), (6, (lookQ L48 6)), (7, (lookQ L48 7)), (8, (lookQ L48 8)), (13, (lookQ L48 13)), (14, (lookQ L48 14)), (32, (lookQ L48 32)), (33, (lookQ L48 33)), (34, v52), (67, (lookQ L48 67))] H49 e50)) fuel L46 H47 e45 (selK I.bot [(2, (fun L81 H82 e83 =>
 I.load 290 H82 (lookQ L81 4) fun v84 =>
 KK 249 [v84] H82 fun v85 H86 f87 => (fun e88 =>
 I.ext v85 0 fun v89 =>
 I.ext v85 1 fun v90 =>
 I.alloc 269 H86 fun v91 H92 =>
 I.store n0 269 H92 v91 v89 fun H93 f94 => (fun e95 =>
 I.bin .neq 33 true v90 (.int .i64 0) fun v96 =>
 I.gd v96 false (fun K97 => I.load 269 H93 v91 fun v101 =>
 K97 v101 H93 e95) H93 e95 fun v98 H99 e100 =>
 I.gd v96 false (fun K102 => I.load 269 H99 (lookQ L81 1) fun v106 =>
 K102 v106 H99 e100) H99 e100 fun v103 H104 e105 =>
 I.gd v96 false (fun K107 => I.bin .neq 269 false v98 v103 fun v111 =>
 K107 v111 H104 e105) H104 e105 fun v108 H109 e110 =>
 I.pick v96 (.bool true) v108 fun v112 =>
 I.cond v112 (
 I.build 290 [] fun v113 =>
 I.store n0 290 H109 (lookQ L81 2) v113 fun H114 f115 => (fun e116 =>
 I.load 290 H114 (lookQ L81 2) fun v117 =>
 I.fin n0 H114 e116 [v117, (.int .i64 11)] k) (escQ f115 e110)) (
 I.load 290 H109 (lookQ L81 4) fun v118 =>
 I.store n0 290 H109 (lookQ L81 2) v118 fun H119 f120 => (fun e121 =>
 I.load 290 H119 (lookQ L81 2) fun v122 =>
 I.fin n0 H119 e121 [v122, (.int .i64 0)] k) (escQ f120 e110))) (escQ f94 e88)) (escQ f87 e83)))] (fun _ _ _ => I.bot))) (escQ f44 e37)))] (fun _ _ _ => I.bot))) (escQ f11 false)) (lenQ H)
  | _ => I.bot⟩
theorem ok174 (R : Type) : TxtOk Tryz.prog U ann 174 (r174 R) := fun I fuel KO KK args H k => match args with
  | [] => .inl rfl
  | [a0] => .inr (by kernel_rfl)
  | _ :: _ :: _ => .inl rfl
/-- (*silt/core.Core).anchor -/
noncomputable def r178 (R : Type) : Bx (Txt R) := ⟨fun I fuel KO KK args H k => match args with
  | [a0] => (fun n0 =>
 I.nil a0 fun v0 =>
 I.fa 173 2 v0 fun v1 =>
 I.load 150 H v1 fun v2 =>
 KK 90 [v2] H fun v3 H4 f5 => (fun e6 =>
 I.alloc 30 H4 fun v7 H8 =>
 I.store n0 30 H8 v7 v3 fun H9 f10 => (fun e11 =>
 I.nil a0 fun v12 =>
 I.fa 173 1 v12 fun v13 =>
 I.fa 32 0 v13 fun v14 =>
 I.load 27 H9 v14 fun v15 =>
 I.alloc 27 H9 fun v16 H17 =>
 I.store n0 27 H17 v16 v15 fun H18 f19 => (fun e20 =>
 I.fa 27 0 v16 fun v21 =>
 I.load 22 H18 v21 fun v22 =>
 I.bin .add 22 true v22 (.int .u32 1) fun v23 =>
 I.fa 27 0 v16 fun v24 =>
 I.store n0 22 H18 v24 v23 fun H25 f26 => (fun e27 =>
 I.fa 30 0 v7 fun v28 =>
 I.load 3 H25 v28 fun v29 =>
 I.fa 30 1 v7 fun v30 =>
 I.load 3 H25 v30 fun v31 =>
 I.fa 30 2 v7 fun v32 =>
 I.load 22 H25 v32 fun v33 =>
 I.fa 27 2 v16 fun v34 =>
 I.store n0 3 H25 v34 v29 fun H35 f36 => (fun e37 =>
 I.fa 27 3 v16 fun v38 =>
 I.store n0 3 H35 v38 v31 fun H39 f40 => (fun e41 =>
 I.fa 27 4 v16 fun v42 =>
 I.store n0 22 H39 v42 v33 fun H43 f44 => (fun e45 =>
 I.load 3 H35 v30 fun v46 =>
 I.same v46 v31 (
 I.load 22 H35 v32 fun v47 =>
 I.same v47 v33 (
 I.load 22 H39 v32 fun v48 =>
 I.same v48 v33 (
 I.nil a0 fun v49 =>
 I.fa 173 0 v49 fun v50 =>
 I.load 36 H43 v50 fun v51 =>
 I.load 27 H43 v16 fun v52 =>
 KK 77 [v51, v52] H43 fun v53 H54 f55 => (fun e56 =>
 KK 254 [a0, v53] H54 fun v57 H58 f59 => (fun e60 =>
 I.bin .neq 33 true v57 (.int .i64 0) fun v61 =>
 I.cond v61 (
 I.fin n0 H58 e60 [v57] k) (
 I.load 27 H58 v16 fun v62 =>
 I.nil a0 fun v63 =>
 I.fa 173 1 v63 fun v64 =>
 I.fa 32 0 v64 fun v65 =>
 I.store n0 27 H58 v65 v62 fun H66 f67 => (fun e68 =>
 I.nil a0 fun v69 =>
 I.fa 173 2 v69 fun v70 =>
 I.load 150 H66 v70 fun v71 =>
 I.fa 27 1 v16 fun v72 =>
 I.load 24 H66 v72 fun v73 =>
 I.fa 30 0 v7 fun v74 =>
 I.load 3 H66 v74 fun v75 =>
 KK 23 [a0] H66 fun v76 H77 f78 => (fun e79 =>
 KK 157 [v73, v76] H77 fun v80 H81 f82 => (fun e83 =>
 KK 156 [v80, v75] H81 fun v84 H85 f86 => (fun e87 =>
 KK 255 [v71, v84] H85 fun v88 H89 f90 => (fun e91 =>
 I.load 150 H77 v70 fun v92 =>
 I.same v92 v71 (
 I.load 150 H81 v70 fun v93 =>
 I.same v93 v71 (
 I.load 150 H85 v70 fun v94 =>
 I.same v94 v71 (
 I.load 24 H77 v72 fun v95 =>
 I.same v95 v73 (
 I.load 3 H77 v74 fun v96 =>
 I.same v96 v75 (
 I.load 3 H81 v74 fun v97 =>
 I.same v97 v75 (
 I.fin n0 H89 e91 [(.int .i64 0)] k))))))) (escQ f90 e87)) (escQ f86 e83)) (escQ f82 e79)) (escQ f78 e68)) (escQ f67 e60))) (escQ f59 e56)) (escQ f55 e45))))) (escQ f44 e41)) (escQ f40 e37)) (escQ f36 e27)) (escQ f26 e20)) (escQ f19 e11)) (escQ f10 e6)) (escQ f5 false)) (lenQ H)
  | _ => I.bot⟩
theorem ok178 (R : Type) : TxtOk Tryz.prog U ann 178 (r178 R) := fun I fuel KO KK args H k => match args with
  | [] => .inl rfl
  | [a0] => .inr (by kernel_rfl)
  | _ :: _ :: _ => .inl rfl
/-- silt/block.Good -/
noncomputable def r181 (R : Type) : Bx (Txt R) := ⟨fun I fuel KO KK args H k => match args with
  | [a0] => (fun n0 =>
 I.box a0 H fun v0 H1 =>
 I.fa 158 1 v0 fun v2 =>
 I.load 3 H1 v2 fun v3 =>
 I.bin .lss 3 true v3 (.int .i64 0) fun v4 =>
 I.gd v4 false (fun K5 => I.load 158 H1 v0 fun v9 =>
 K5 v9 H1 false) H1 false fun v6 H7 e8 =>
 I.gd v4 false (fun K10 => KK 258 [v6] H7 fun v14 H15 f16 => (fun e17 =>
 K10 v14 H15 e17) (escQ f16 e8)) H7 e8 fun v11 H12 e13 =>
 I.gd v4 false (fun K18 => I.un .not v11 fun v22 =>
 K18 v22 H12 e13) H12 e13 fun v19 H20 e21 =>
 I.pick v4 (.bool true) v19 fun v23 =>
 I.cond v23 (
 I.fin n0 H20 e21 [(.bool false)] k) (
 I.fa 158 0 v0 fun v24 =>
 I.load 3 H20 v24 fun v25 =>
 I.join (fun L26 H27 e28 =>
 I.fin n0 H27 e28 [(.bool false)] k) fun j29 =>
 I.join (fun L30 H31 e32 =>
 I.fa 158 1 (lookQ L30 1) fun v33 =>
 I.load 3 H31 v33 fun v34 =>
 I.bin .lss 3 true v34 (.int .i64 64) fun v35 =>
 I.fin n0 H31 e32 [v35] k) fun j36 =>
 I.bin .eql 3 true v25 (.int .i64 2) fun v37 =>
 I.cond v37 (
 I.fa 158 3 v0 fun v38 =>
 I.load 3 H20 v38 fun v39 =>
 I.bin .lss 3 true v39 (.int .i64 0) fun v40 =>
 I.gd v40 false (fun K41 => I.fa 158 4 v0 fun v45 =>
 K41 v45 H20 e21) H20 e21 fun v42 H43 e44 =>
 I.gd v40 false (fun K46 => I.load 65 H43 v42 fun v50 =>
 K46 v50 H43 e44) H43 e44 fun v47 H48 e49 =>
 I.gd v40 false (fun K51 => I.len v47 fun v55 =>
 K51 v55 H48 e49) H48 e49 fun v52 H53 e54 =>
 I.gd v40 false (fun K56 => I.bin .lss 3 true v52 (.int .i64 1) fun v60 =>
 K56 v60 H53 e54) H53 e54 fun v57 H58 e59 =>
 I.pick v40 (.bool true) v57 fun v61 =>
 I.gd v61 false (fun K62 => I.fa 158 4 v0 fun v66 =>
 K62 v66 H58 e59) H58 e59 fun v63 H64 e65 =>
 I.gd v61 false (fun K67 => I.load 65 H64 v63 fun v71 =>
 K67 v71 H64 e65) H64 e65 fun v68 H69 e70 =>
 I.gd v61 false (fun K72 => I.len v68 fun v76 =>
 K72 v76 H69 e70) H69 e70 fun v73 H74 e75 =>
 I.gd v61 false (fun K77 => I.bin .gtr 3 true v73 (.int .i64 16) fun v81 =>
 K77 v81 H74 e75) H74 e75 fun v78 H79 e80 =>
 I.pick v61 (.bool true) v78 fun v82 =>
 I.gd v82 false (fun K83 => I.fa 158 3 v0 fun v87 =>
 K83 v87 H79 e80) H79 e80 fun v84 H85 e86 =>
 I.gd v82 false (fun K88 => I.load 3 H85 v84 fun v92 =>
 K88 v92 H85 e86) H85 e86 fun v89 H90 e91 =>
 I.gd v82 false (fun K93 => I.fa 158 4 v0 fun v97 =>
 K93 v97 H90 e91) H90 e91 fun v94 H95 e96 =>
 I.gd v82 false (fun K98 => I.load 65 H95 v94 fun v102 =>
 K98 v102 H95 e96) H95 e96 fun v99 H100 e101 =>
 I.gd v82 false (fun K103 => I.len v99 fun v107 =>
 K103 v107 H100 e101) H100 e101 fun v104 H105 e106 =>
 I.gd v82 false (fun K108 => I.bin .sub 3 true (.int .i64 32) v104 fun v112 =>
 K108 v112 H105 e106) H105 e106 fun v109 H110 e111 =>
 I.gd v82 false (fun K113 => I.bin .gtr 3 false v89 v109 fun v117 =>
 K113 v117 H110 e111) H110 e111 fun v114 H115 e116 =>
 I.pick v82 (.bool true) v114 fun v118 =>
 I.gd v118 false (fun K119 => I.fa 158 5 v0 fun v123 =>
 K119 v123 H115 e116) H115 e116 fun v120 H121 e122 =>
 I.gd v118 false (fun K124 => I.load 3 H121 v120 fun v128 =>
 K124 v128 H121 e122) H121 e122 fun v125 H126 e127 =>
 I.gd v118 false (fun K129 => I.bin .eql 3 true v125 (.int .i64 0) fun v133 =>
 K129 v133 H126 e127) H126 e127 fun v130 H131 e132 =>
 I.pick v118 (.bool true) v130 fun v134 =>
 I.gd v134 false (fun K135 => I.fa 158 5 v0 fun v139 =>
 K135 v139 H131 e132) H131 e132 fun v136 H137 e138 =>
 I.gd v134 false (fun K140 => I.load 3 H137 v136 fun v144 =>
 K140 v144 H137 e138) H137 e138 fun v141 H142 e143 =>
 I.gd v134 false (fun K145 => KK 259 [v141] H142 fun v149 H150 f151 => (fun e152 =>
 K145 v149 H150 e152) (escQ f151 e143)) H142 e143 fun v146 H147 e148 =>
 I.gd v134 false (fun K153 => I.un .not v146 fun v157 =>
 K153 v157 H147 e148) H147 e148 fun v154 H155 e156 =>
 I.pick v134 (.bool true) v154 fun v158 =>
 I.cond v158 (
 I.fin n0 H155 e156 [(.bool false)] k) (
 j36 [(0, a0), (1, v0), (2, (.bool false)), (10, v23), (12, v25), (13, v37), (15, .bad), (17, .bad), (53, v158)] H155 e156)) (
 I.bin .eql 3 true v25 (.int .i64 1) fun v159 =>
 I.cond v159 (
 j36 [(0, a0), (1, v0), (2, (.bool false)), (10, v23), (12, v25), (13, v37), (15, v159), (17, .bad), (53, .bad)] H20 e21) (
 I.bin .eql 3 true v25 (.int .i64 3) fun v160 =>
 I.cond v160 (
 I.fa 158 1 v0 fun v161 =>
 I.load 3 H20 v161 fun v162 =>
 I.bin .lss 3 true v162 (.int .i64 8) fun v163 =>
 I.gd v163 true (fun K164 => I.fa 158 6 v0 fun v168 =>
 K164 v168 H20 e21) H20 e21 fun v165 H166 e167 =>
 I.gd v163 true (fun K169 => I.slice 25 H166 v165 none none fun v173 =>
 K169 v173 H166 e167) H166 e167 fun v170 H171 e172 =>
 I.gd v163 true (fun K174 => KK 99 [v170, (.func (.func 260) [] [])] H171 fun v178 H179 f180 => (fun e181 =>
 K174 v178 H179 e181) (escQ f180 e172)) H171 e172 fun v175 H176 e177 =>
 I.gd v163 true (fun K182 => I.un .not v175 fun v186 =>
 K182 v186 H176 e177) H176 e177 fun v183 H184 e185 =>
 I.pick v163 v183 (.bool false) fun v187 =>
 I.fin n0 H184 e185 [v187] k) (
 j29 [(0, a0), (1, v0), (2, (.bool false)), (10, v23), (12, v25), (13, v37), (15, v159), (17, v160), (53, .bad)] H20 e21))))) (lenQ H)
  | _ => I.bot⟩
theorem ok181 (R : Type) : TxtOk Tryz.prog U ann 181 (r181 R) := fun I fuel KO KK args H k => match args with
  | [] => .inl rfl
  | [a0] => .inr (by kernel_rfl)
  | _ :: _ :: _ => .inl rfl
/-- slices.IndexFunc[[]int,int] -/
noncomputable def r182 (R : Type) : Bx (Txt R) := ⟨fun I fuel KO KK args H k => match args with
  | [a0, a1] => (fun n0 =>
 I.len a0 fun v0 =>
 I.head n0 387 [(0, a0), (1, a1), (4, (.int .i64 0)), (5, .bad), (7, v0), (8, (.int .i64 0)), (9, .bad), (16, .bad)] H false fun L1 H2 => loopM I n0 387 (fun L3 H4 e5 k6 =>
 I.bin .lss 3 false (lookQ L3 8) (lookQ L3 7) fun v7 =>
 I.cond v7 (
 I.ia 28 (lookQ L3 0) (lookQ L3 8) fun v8 =>
 I.load 3 H4 v8 fun v9 =>
 I.callv KK (lookQ L3 1) [v9] H4 fun v10 H11 f12 => (fun e13 =>
 I.cond v10 (
 k6 .ret [(0, (lookQ L3 0)), (1, (lookQ L3 1)), (4, (lookQ L3 8)), (5, (lookQ L3 8)), (7, (lookQ L3 7)), (8, (lookQ L3 8)), (9, v7), (16, v10)] H11 e13) (
 I.bin .add 3 true (lookQ L3 8) (.int .i64 1) fun v14 =>
 k6 .normal [(0, (lookQ L3 0)), (1, (lookQ L3 1)), (4, (lookQ L3 4)), (5, (lookQ L3 8)), (7, (lookQ L3 7)), (8, v14), (9, v7), (16, v10)] H11 e13)) (escQ f12 e5)) (
 k6 (.exit 0) [(0, (lookQ L3 0)), (1, (lookQ L3 1)), (4, (lookQ L3 4)), (5, (lookQ L3 5)), (7, (lookQ L3 7)), (8, (lookQ L3 8)), (9, v7), (16, (lookQ L3 16))] H4 e5)) fuel L1 H2 false (selK I.bot [(0, (fun L15 H16 e17 =>
 I.fin n0 H16 e17 [(.int .i64 (-1))] k))] (fun L18 H19 e20 =>
 I.fin n0 H19 e20 [(lookQ L18 4)] k))) (lenQ H)
  | _ => I.bot⟩
theorem ok182 (R : Type) : TxtOk Tryz.prog U ann 182 (r182 R) := fun I fuel KO KK args H k => match args with
  | [] => .inl rfl
  | [_] => .inl rfl
  | [a0, a1] => .inr (by kernel_rfl)
  | _ :: _ :: _ :: _ => .inl rfl
/-- silt/plan.Of -/
noncomputable def r183 (R : Type) : Bx (Txt R) := ⟨fun I fuel KO KK args H k => match args with
  | [a0, a1] => (fun n0 =>
 I.box a0 H fun v0 H1 =>
 I.load 24 H1 v0 fun v2 =>
 KK 73 [v2] H1 fun v3 H4 f5 => (fun e6 =>
 I.un .not v3 fun v7 =>
 I.cond v7 (
 I.fin n0 H4 e6 [(.int .i64 0), (.int .i64 0), (.bool false)] k) (
 I.load 24 H4 v0 fun v8 =>
 KK 261 [v8, a1] H4 fun v9 H10 f11 => (fun e12 =>
 I.join (fun L13 H14 e15 =>
 I.bin .sub 3 true (lookQ L13 1) (.int .i64 4) fun v16 =>
 I.fa 24 2 (lookQ L13 2) fun v17 =>
 I.load 3 H14 v17 fun v18 =>
 I.bin .quo 3 false v16 v18 fun v19 =>
 I.bin .sub 3 true (lookQ L13 1) (.int .i64 4) fun v20 =>
 I.fa 24 2 (lookQ L13 2) fun v21 =>
 I.load 3 H14 v21 fun v22 =>
 I.bin .rem 3 false v20 v22 fun v23 =>
 I.fin n0 H14 e15 [v19, v23, (.bool true)] k) fun j24 =>
 I.join (fun L25 H26 e27 =>
 I.fin n0 H26 e27 [(.int .i64 0), (.int .i64 0), (.bool false)] k) fun j28 =>
 I.bin .eql 3 true v9 (.int .i64 0) fun v29 =>
 I.cond v29 (
 j28 [(0, a0), (1, a1), (2, v0), (4, (.int .i64 0)), (5, (.int .i64 0)), (6, (.bool false)), (9, v7), (12, v9), (13, v29), (15, .bad)] H10 e12) (
 I.bin .eql 3 true v9 (.int .i64 2) fun v30 =>
 I.cond v30 (
 j28 [(0, a0), (1, a1), (2, v0), (4, (.int .i64 0)), (5, (.int .i64 0)), (6, (.bool false)), (9, v7), (12, v9), (13, v29), (15, v30)] H10 e12) (
 j24 [(0, a0), (1, a1), (2, v0), (4, (.int .i64 0)), (5, (.int .i64 0)), (6, (.bool false)), (9, v7), (12, v9), (13, v29), (15, v30)] H10 e12))) (escQ f11 e6))) (escQ f5 false)) (lenQ H)
  | _ => I.bot⟩
theorem ok183 (R : Type) : TxtOk Tryz.prog U ann 183 (r183 R) := fun I fuel KO KK args H k => match args with
  | [] => .inl rfl
  | [_] => .inl rfl
  | [a0, a1] => .inr (by kernel_rfl)
  | _ :: _ :: _ :: _ => .inl rfl
/-- silt/clock.New -/
noncomputable def r187 (R : Type) : Bx (Txt R) := ⟨fun I fuel KO KK args H k => match args with
  | [a0] => (fun n0 =>
 I.bin .lss 3 true a0 (.int .i64 1) fun v0 =>
 I.gd v0 false (fun K1 => K1 a0 H false) H false fun v2 H3 e4 =>
 I.gd v0 false (fun K5 => I.bin .gtr 3 true v2 (.int .i64 16) fun v9 =>
 K5 v9 H3 e4) H3 e4 fun v6 H7 e8 =>
 I.pick v0 (.bool true) v6 fun v10 =>
 I.cond v10 (
 I.fin n0 H7 e8 [.nilp, (.int .i64 1)] k) (
 I.mslice 315 a0 a0 H7 fun v11 H12 =>
 I.build 317 [(0, v11)] fun v13 =>
 I.box v13 H12 fun v14 H15 =>
 I.nil v14 fun v16 =>
 I.fa 317 0 v16 fun v17 =>
 I.load 315 H15 v17 fun v18 =>
 I.len v18 fun v19 =>
 I.head n0 3145744 [(0, a0), (2, .nilp), (3, (.int .i64 0)), (4, v14), (5, .bad), (11, v10), (20, v19), (21, (.int .i64 0)), (22, .bad)] H15 e8 fun L20 H21 => loopM I n0 3145744 (fun L22 H23 e24 k25 =>
 I.bin .lss 3 false (lookQ L22 21) (lookQ L22 20) fun v26 =>
 I.cond v26 (
 I.nil (lookQ L22 4) fun v27 =>
 I.fa 317 0 v27 fun v28 =>
 I.load 315 H23 v28 fun v29 =>
 I.ia 315 v29 (lookQ L22 21) fun v30 =>
 I.fa 320 0 v30 fun v31 =>
 I.store n0 3 H23 v31 (.int .i64 (-1)) fun H32 f33 => (fun e34 =>
 I.bin .add 3 true (lookQ L22 21) (.int .i64 1) fun v35 =>
 k25 .normal [(0, (lookQ L22 0)), (2, (lookQ L22 2)), (3, (lookQ L22 3)), (4, (lookQ L22 4)), (5, (lookQ L22 21)), (11, (lookQ L22 11)), (20, (lookQ L22 20)), (21, v35), (22, v26)] H32 e34) (escQ f33 e24)) (
 k25 (.exit 0) [(0, (lookQ L22 0)), (2, (lookQ L22 2)), (3, (lookQ L22 3)), (4, (lookQ L22 4)), (5, (lookQ L22 5)), (11, (lookQ L22 11)), (20, (lookQ L22 20)), (21, (lookQ L22 21)), (22, v26)] H23 e24)) fuel L20 H21 e8 (selK I.bot [(0, (fun L36 H37 e38 =>
 I.fin n0 H37 e38 [(lookQ L36 4), (.int .i64 0)] k))] (fun _ _ _ => I.bot)))) (lenQ H)
  | _ => I.bot⟩
theorem ok187 (R : Type) : TxtOk Tryz.prog U ann 187 (r187 R) := fun I fuel KO KK args H k => match args with
  | [] => .inl rfl
  | [a0] => .inr (by kernel_rfl)
  | _ :: _ :: _ => .inl rfl
/-- (*silt/clock.Clock).at -/
noncomputable def r191 (R : Type) : Bx (Txt R) := ⟨fun I fuel KO KK args H k => match args with
  | [a0, a1] => (fun n0 =>
 I.bin .eql 198 true a0 .nilp fun v0 =>
 I.gd v0 false (fun K1 => K1 a1 H false) H false fun v2 H3 e4 =>
 I.gd v0 false (fun K5 => I.bin .lss 3 true v2 (.int .i64 0) fun v9 =>
 K5 v9 H3 e4) H3 e4 fun v6 H7 e8 =>
 I.pick v0 (.bool true) v6 fun v10 =>
 I.gd v10 false (fun K11 => K11 a1 H7 e8) H7 e8 fun v12 H13 e14 =>
 I.gd v10 false (fun K15 => K15 a0 H13 e14) H13 e14 fun v16 H17 e18 =>
 I.gd v10 false (fun K19 => I.nil v16 fun v23 =>
 K19 v23 H17 e18) H17 e18 fun v20 H21 e22 =>
 I.gd v10 false (fun K24 => I.fa 317 0 v20 fun v28 =>
 K24 v28 H21 e22) H21 e22 fun v25 H26 e27 =>
 I.gd v10 false (fun K29 => I.load 315 H26 v25 fun v33 =>
 K29 v33 H26 e27) H26 e27 fun v30 H31 e32 =>
 I.gd v10 false (fun K34 => I.len v30 fun v38 =>
 K34 v38 H31 e32) H31 e32 fun v35 H36 e37 =>
 I.gd v10 false (fun K39 => I.bin .geq 3 false v12 v35 fun v43 =>
 K39 v43 H36 e37) H36 e37 fun v40 H41 e42 =>
 I.pick v10 (.bool true) v40 fun v44 =>
 I.cond v44 (
 I.fin n0 H41 e42 [.nilp] k) (
 I.nil a0 fun v45 =>
 I.fa 317 0 v45 fun v46 =>
 I.load 315 H41 v46 fun v47 =>
 I.ia 315 v47 a1 fun v48 =>
 I.fin n0 H41 e42 [v48] k)) (lenQ H)
  | _ => I.bot⟩
theorem ok191 (R : Type) : TxtOk Tryz.prog U ann 191 (r191 R) := fun I fuel KO KK args H k => match args with
  | [] => .inl rfl
  | [_] => .inl rfl
  | [a0, a1] => .inr (by kernel_rfl)
  | _ :: _ :: _ :: _ => .inl rfl
/-- (*silt/frames.Frames).find -/
noncomputable def r192 (R : Type) : Bx (Txt R) := ⟨fun I fuel KO KK args H k => match args with
  | [a0, a1, a2] => (fun n0 =>
 I.bin .eql 86 true a0 .nilp fun v0 =>
 I.gd v0 false (fun K1 => K1 a1 H false) H false fun v2 H3 e4 =>
 I.gd v0 false (fun K5 => KK 196 [v2] H3 fun v9 H10 f11 => (fun e12 =>
 K5 v9 H10 e12) (escQ f11 e4)) H3 e4 fun v6 H7 e8 =>
 I.gd v0 false (fun K13 => K13 a2 H7 e8) H7 e8 fun v14 H15 e16 =>
 I.gd v0 false (fun K17 => I.bin .neq 3 false v6 v14 fun v21 =>
 K17 v21 H15 e16) H15 e16 fun v18 H19 e20 =>
 I.pick v0 (.bool true) v18 fun v22 =>
 I.cond v22 (
 I.fin n0 H19 e20 [(.int .i64 0), (.bool false)] k) (
 I.nil a0 fun v23 =>
 I.fa 312 0 v23 fun v24 =>
 I.load 198 H19 v24 fun v25 =>
 KK 197 [v25, a1] H19 fun v26 H27 f28 => (fun e29 =>
 I.ext v26 0 fun v30 =>
 I.ext v26 1 fun v31 =>
 I.fin n0 H27 e29 [v30, v31] k) (escQ f28 e20))) (lenQ H)
  | _ => I.bot⟩
theorem ok192 (R : Type) : TxtOk Tryz.prog U ann 192 (r192 R) := fun I fuel KO KK args H k => match args with
  | [] => .inl rfl
  | [_] => .inl rfl
  | [_, _] => .inl rfl
  | [a0, a1, a2] => .inr (by kernel_rfl)
  | _ :: _ :: _ :: _ :: _ => .inl rfl
/-- silt/frames.kind -/
noncomputable def r196 (R : Type) : Bx (Txt R) := ⟨fun I fuel KO KK args H k => match args with
  | [a0] => (fun n0 =>
 I.join (fun L0 H1 e2 =>
 I.fin n0 H1 e2 [(.int .i64 2)] k) fun j3 =>
 I.join (fun L4 H5 e6 =>
 I.fin n0 H5 e6 [(.int .i64 0)] k) fun j7 =>
 I.bin .lss 3 true a0 (.int .i64 0) fun v8 =>
 I.cond v8 (
 j7 [(0, a0), (2, (.int .i64 0)), (3, v8), (6, .bad), (9, .bad)] H false) (
 I.bin .geq 3 true a0 (.int .i64 72) fun v9 =>
 I.cond v9 (
 j7 [(0, a0), (2, (.int .i64 0)), (3, v8), (6, v9), (9, .bad)] H false) (
 I.bin .lss 3 true a0 (.int .i64 64) fun v10 =>
 I.cond v10 (
 I.fin n0 H false [(.int .i64 1)] k) (
 j3 [(0, a0), (2, (.int .i64 0)), (3, v8), (6, v9), (9, v10)] H false)))) (lenQ H)
  | _ => I.bot⟩
theorem ok196 (R : Type) : TxtOk Tryz.prog U ann 196 (r196 R) := fun I fuel KO KK args H k => match args with
  | [] => .inl rfl
  | [a0] => .inr (by kernel_rfl)
  | _ :: _ :: _ => .inl rfl
/-- (*silt/clock.Clock).Find -/
noncomputable def r197 (R : Type) : Bx (Txt R) := ⟨fun I fuel KO KK args H k => match args with
  | [a0, a1] => (fun n0 =>
 I.bin .eql 198 true a0 .nilp fun v0 =>
 I.gd v0 false (fun K1 => K1 a1 H false) H false fun v2 H3 e4 =>
 I.gd v0 false (fun K5 => I.bin .lss 3 true v2 (.int .i64 0) fun v9 =>
 K5 v9 H3 e4) H3 e4 fun v6 H7 e8 =>
 I.pick v0 (.bool true) v6 fun v10 =>
 I.cond v10 (
 I.fin n0 H7 e8 [(.int .i64 0), (.bool false)] k) (
 I.nil a0 fun v11 =>
 I.fa 317 0 v11 fun v12 =>
 I.load 315 H7 v12 fun v13 =>
 I.len v13 fun v14 =>
 I.head n0 917506 [(0, a0), (1, a1), (4, (.int .i64 0)), (5, (.bool false)), (6, .bad), (7, .bad), (13, v10), (17, v13), (18, v14), (19, (.int .i64 0)), (20, .bad), (27, .bad)] H7 e8 fun L15 H16 => loopM I n0 917506 (fun L17 H18 e19 k20 =>
 I.bin .lss 3 false (lookQ L17 19) (lookQ L17 18) fun v21 =>
 I.cond v21 (
 I.ia 315 (lookQ L17 17) (lookQ L17 19) fun v22 =>
 I.load 320 H18 v22 fun v23 =>
 I.alloc 320 H18 fun v24 H25 =>
 I.store n0 320 H25 v24 v23 fun H26 f27 => (fun e28 =>
 I.fa 320 0 v24 fun v29 =>
 I.load 3 H26 v29 fun v30 =>
 I.bin .eql 3 false v30 (lookQ L17 1) fun v31 =>
 I.cond v31 (
 k20 .ret [(0, (lookQ L17 0)), (1, (lookQ L17 1)), (4, (lookQ L17 19)), (5, (.bool true)), (6, (lookQ L17 19)), (7, v24), (13, (lookQ L17 13)), (17, (lookQ L17 17)), (18, (lookQ L17 18)), (19, (lookQ L17 19)), (20, v21), (27, v31)] H26 e28) (
 I.bin .add 3 true (lookQ L17 19) (.int .i64 1) fun v32 =>
 k20 .normal [(0, (lookQ L17 0)), (1, (lookQ L17 1)), (4, (lookQ L17 4)), (5, (lookQ L17 5)), (6, (lookQ L17 19)), (7, v24), (13, (lookQ L17 13)), (17, (lookQ L17 17)), (18, (lookQ L17 18)), (19, v32), (20, v21), (27, v31)] H26 e28)) (escQ f27 e19)) (
 k20 (.exit 0) [(0, (lookQ L17 0)), (1, (lookQ L17 1)), (4, (lookQ L17 4)), (5, (lookQ L17 5)), (6, (lookQ L17 6)), (7, (lookQ L17 7)), (13, (lookQ L17 13)), (17, (lookQ L17 17)), (18, (lookQ L17 18)), (19, (lookQ L17 19)), (20, v21), (27, (lookQ L17 27))] H18 e19)) fuel L15 H16 e8 (selK I.bot [(0, (fun L33 H34 e35 =>
 I.fin n0 H34 e35 [(.int .i64 0), (.bool false)] k))] (fun L36 H37 e38 =>
 I.fin n0 H37 e38 [(lookQ L36 4), (lookQ L36 5)] k)))) (lenQ H)
  | _ => I.bot⟩
theorem ok197 (R : Type) : TxtOk Tryz.prog U ann 197 (r197 R) := fun I fuel KO KK args H k => match args with
  | [] => .inl rfl
  | [_] => .inl rfl
  | [a0, a1] => .inr (by kernel_rfl)
  | _ :: _ :: _ :: _ => .inl rfl
/-- (*silt/cache.Cache).want -/
noncomputable def r201 (R : Type) : Bx (Txt R) := ⟨fun I fuel KO KK args H k => match args with
  | [a0, a1, a2] => (fun n0 =>
 I.alloc 167 H fun v0 H1 =>
 I.nil a0 fun v2 =>
 I.fa 196 1 v2 fun v3 =>
 I.load 86 H1 v3 fun v4 =>
 KK 113 [v4, a1] H1 fun v5 H6 f7 => (fun e8 =>
 I.ext v5 0 fun v9 =>
 I.ext v5 1 fun v10 =>
 I.ext v5 2 fun v11 =>
 I.alloc 40 H6 fun v12 H13 =>
 I.alloc 40 H13 fun v14 H15 =>
 I.store n0 40 H15 v12 v9 fun H16 f17 => (fun e18 =>
 I.store n0 40 H16 v14 v10 fun H19 f20 => (fun e21 =>
 I.load 40 H19 v14 fun v22 =>
 I.build 167 [(0, a1), (1, (.int .i64 1)), (2, v22)] fun v23 =>
 I.alloc 167 H19 fun v24 H25 =>
 I.store n0 167 H25 v24 v23 fun H26 f27 => (fun e28 =>
 I.nil a0 fun v29 =>
 I.fa 196 2 v29 fun v30 =>
 I.load 28 H26 v30 fun v31 =>
 I.ia 28 v31 a1 fun v32 =>
 I.load 3 H26 v32 fun v33 =>
 I.bin .eql 3 true v33 (.int .i64 0) fun v34 =>
 I.cond v34 (
 I.build 167 [(0, a1), (1, (.int .i64 5))] fun v35 =>
 I.bin .neq 3 true a2 (.int .i64 0) fun v36 =>
 I.store n0 167 H26 v0 v35 fun H37 f38 => (fun e39 =>
 I.load 167 H37 v0 fun v40 =>
 I.fin n0 H37 e39 [v40, v36] k) (escQ f38 e28)) (
 I.un .not v11 fun v41 =>
 I.cond v41 (
 I.build 167 [(0, a1), (1, (.int .i64 4))] fun v42 =>
 I.nil a0 fun v43 =>
 I.fa 196 3 v43 fun v44 =>
 I.load 194 H26 v44 fun v45 =>
 I.ia 194 v45 a1 fun v46 =>
 I.load 4 H26 v46 fun v47 =>
 I.store n0 167 H26 v0 v42 fun H48 f49 => (fun e50 =>
 I.load 194 H48 v44 fun v51 =>
 I.same v51 v45 (
 I.load 4 H48 v46 fun v52 =>
 I.same v52 v47 (
 I.load 167 H48 v0 fun v53 =>
 I.fin n0 H48 e50 [v53, v47] k))) (escQ f49 e28)) (
 I.load 167 H26 v24 fun v54 =>
 I.nil a0 fun v55 =>
 I.fa 196 3 v55 fun v56 =>
 I.load 194 H26 v56 fun v57 =>
 I.ia 194 v57 a1 fun v58 =>
 I.load 4 H26 v58 fun v59 =>
 I.gd v59 false (fun K60 => I.load 40 H26 v12 fun v64 =>
 K60 v64 H26 e28) H26 e28 fun v61 H62 e63 =>
 I.gd v59 false (fun K65 => I.load 40 H62 v14 fun v69 =>
 K65 v69 H62 e63) H62 e63 fun v66 H67 e68 =>
 I.gd v59 false (fun K70 => I.bin .neq 40 false v61 v66 fun v74 =>
 K70 v74 H67 e68) H67 e68 fun v71 H72 e73 =>
 I.pick v59 (.bool true) v71 fun v75 =>
 I.store n0 167 H72 v0 v54 fun H76 f77 => (fun e78 =>
 I.cg v59 false (fun r79 => I.load 40 H76 v12 fun v80 =>
 I.same v80 v61 (
 r79)) (
 I.cg v59 false (fun r81 => I.load 40 H76 v14 fun v82 =>
 I.same v82 v66 (
 r81)) (
 I.load 167 H76 v0 fun v83 =>
 I.fin n0 H76 e78 [v83, v75] k))) (escQ f77 e73)))) (escQ f27 e21)) (escQ f20 e18)) (escQ f17 e8)) (escQ f7 false)) (lenQ H)
  | _ => I.bot⟩
theorem ok201 (R : Type) : TxtOk Tryz.prog U ann 201 (r201 R) := fun I fuel KO KK args H k => match args with
  | [] => .inl rfl
  | [_] => .inl rfl
  | [_, _] => .inl rfl
  | [a0, a1, a2] => .inr (by kernel_rfl)
  | _ :: _ :: _ :: _ :: _ => .inl rfl
/-- (*silt/frames.Frames).Clean -/
noncomputable def r202 (R : Type) : Bx (Txt R) := ⟨fun I fuel KO KK args H k => match args with
  | [a0, a1] => (fun n0 =>
 KK 192 [a0, a1, (.int .i64 1)] H fun v0 H1 f2 => (fun e3 =>
 I.ext v0 0 fun v4 =>
 I.ext v0 1 fun v5 =>
 I.cond v5 (
 I.nil a0 fun v6 =>
 I.fa 312 1 v6 fun v7 =>
 I.load 309 H1 v7 fun v8 =>
 I.nil a0 fun v9 =>
 I.fa 312 1 v9 fun v10 =>
 I.load 309 H1 v10 fun v11 =>
 I.ia 309 v11 v4 fun v12 =>
 I.fa 324 1 v12 fun v13 =>
 I.load 40 H1 v13 fun v14 =>
 I.ia 309 v8 v4 fun v15 =>
 I.fa 324 0 v15 fun v16 =>
 I.store n0 40 H1 v16 v14 fun H17 f18 => (fun e19 =>
 I.fin n0 H17 e19 [] k) (escQ f18 e3)) (
 I.fin n0 H1 e3 [] k)) (escQ f2 false)) (lenQ H)
  | _ => I.bot⟩
theorem ok202 (R : Type) : TxtOk Tryz.prog U ann 202 (r202 R) := fun I fuel KO KK args H k => match args with
  | [] => .inl rfl
  | [_] => .inl rfl
  | [a0, a1] => .inr (by kernel_rfl)
  | _ :: _ :: _ :: _ => .inl rfl
/-- slices.Sort[[]int,int] -/
noncomputable def r204 (R : Type) : Bx (Txt R) := ⟨fun I fuel KO KK args H k => match args with
  | [a0] => (fun n0 =>
 I.len a0 fun v0 =>
 I.conv 3 379 v0 H fun v1 H2 =>
 KK 267 [v1] H2 fun v3 H4 f5 => (fun e6 =>
 KK 266 [a0, (.int .i64 0), v0, v3] H4 fun v7 H8 f9 => (fun e10 =>
 I.fin n0 H8 e10 [] k) (escQ f9 e6)) (escQ f5 false)) (lenQ H)
  | _ => I.bot⟩
theorem ok204 (R : Type) : TxtOk Tryz.prog U ann 204 (r204 R) := fun I fuel KO KK args H k => match args with
  | [] => .inl rfl
  | [a0] => .inr (by kernel_rfl)
  | _ :: _ :: _ => .inl rfl
/-- silt/heads.Changed -/
noncomputable def r212 (R : Type) : Bx (Txt R) := ⟨fun I fuel KO KK args H k => match args with
  | [a0, a1] => (fun n0 =>
 I.len a0 fun v0 =>
 I.len a1 fun v1 =>
 I.blt true .max #[3, 3] n0 [v0, v1] H fun v2 H3 f4 => (fun e5 =>
 I.head n0 6179 [(0, a0), (1, a1), (4, .nils), (5, .nils), (6, .bad), (11, v2), (12, (.int .i64 0)), (13, .bad), (21, .bad)] H3 e5 fun L6 H7 => loopM I n0 6179 (fun L8 H9 e10 k11 =>
 I.bin .lss 3 false (lookQ L8 12) (lookQ L8 11) fun v12 =>
 I.cond v12 (
 I.join (fun L13 H14 e15 =>
 I.bin .add 3 true (lookQ L13 12) (.int .i64 1) fun v16 =>
 k11 .normal [(0, (lookQ L13 0)), (1, (lookQ L13 1)), (4, (lookQ L13 4)), (5, (lookQ L13 5)), (6, (lookQ L13 6)), (11, (lookQ L13 11)), (12, v16), (13, (lookQ L13 13)), (21, (lookQ L13 21))] H14 e15) fun j17 =>
 KK 273 [(lookQ L8 0), (lookQ L8 12)] H9 fun v18 H19 f20 => (fun e21 =>
 KK 273 [(lookQ L8 1), (lookQ L8 12)] H19 fun v22 H23 f24 => (fun e25 =>
 I.bin .neq 3 false v18 v22 fun v26 =>
 I.cond v26 (
 I.bslice 28 1 [(0, (lookQ L8 12))] H23 fun v27 H28 =>
 I.blt true .append #[28, 28] n0 [(lookQ L8 5), v27] H28 fun v29 H30 f31 => (fun e32 =>
 j17 [(0, (lookQ L8 0)), (1, (lookQ L8 1)), (4, (lookQ L8 4)), (5, v29), (6, (lookQ L8 12)), (11, (lookQ L8 11)), (12, (lookQ L8 12)), (13, v12), (21, v26)] H30 e32) (escQ f31 e25)) (
 j17 [(0, (lookQ L8 0)), (1, (lookQ L8 1)), (4, (lookQ L8 4)), (5, (lookQ L8 5)), (6, (lookQ L8 12)), (11, (lookQ L8 11)), (12, (lookQ L8 12)), (13, v12), (21, v26)] H23 e25)) (escQ f24 e21)) (escQ f20 e10)) (
 k11 (.exit 0) [(0, (lookQ L8 0)), (1, (lookQ L8 1)), (4, (lookQ L8 4)), (5, (lookQ L8 5)), (6, (lookQ L8 6)), (11, (lookQ L8 11)), (12, (lookQ L8 12)), (13, v12), (21, (lookQ L8 21))] H9 e10)) fuel L6 H7 e5 (selK I.bot [(0, (fun L33 H34 e35 =>
 I.fin n0 H34 e35 [(lookQ L33 5)] k))] (fun _ _ _ => I.bot))) (escQ f4 false)) (lenQ H)
  | _ => I.bot⟩
theorem ok212 (R : Type) : TxtOk Tryz.prog U ann 212 (r212 R) := fun I fuel KO KK args H k => match args with
  | [] => .inl rfl
  | [_] => .inl rfl
  | [a0, a1] => .inr (by kernel_rfl)
  | _ :: _ :: _ :: _ => .inl rfl
/-- errors.is -/
noncomputable def r214 (R : Type) : Bx (Txt R) := ⟨fun I fuel KO KK args H k => match args with
  | [a0, a1, a2] => (fun n0 =>
 I.head n0 7 [(0, a0), (1, a1), (2, a2), (6, (.bool false)), (7, .bad), (8, .bad), (9, .bad), (10, .bad), (12, .bad), (19, .bad), (30, .bad), (31, .bad), (33, .bad), (34, .bad), (38, .bad), (40, .bad), (41, .bad), (43, .bad), (44, .bad), (45, .bad), (46, .bad), (52, .bad)] H false fun L0 H1 => loopM I n0 7 (fun L2 H3 e4 k5 =>
 I.gd (lookQ L2 2) true (fun K6 => K6 (lookQ L2 0) H3 e4) H3 e4 fun v7 H8 e9 =>
 I.gd (lookQ L2 2) true (fun K10 => K10 (lookQ L2 1) H8 e9) H8 e9 fun v11 H12 e13 =>
 I.gd (lookQ L2 2) true (fun K14 => I.bin .eql 137 false v7 v11 fun v18 =>
 K14 v18 H12 e13) H12 e13 fun v15 H16 e17 =>
 I.pick (lookQ L2 2) v15 (.bool false) fun v19 =>
 I.cond v19 (
 k5 .ret [(0, (lookQ L2 0)), (1, (lookQ L2 1)), (2, (lookQ L2 2)), (6, (.bool true)), (7, (lookQ L2 7)), (8, (lookQ L2 8)), (9, (lookQ L2 9)), (10, (lookQ L2 10)), (12, (lookQ L2 12)), (19, v19), (30, (lookQ L2 30)), (31, (lookQ L2 31)), (33, (lookQ L2 33)), (34, (lookQ L2 34)), (38, (lookQ L2 38)), (40, (lookQ L2 40)), (41, (lookQ L2 41)), (43, (lookQ L2 43)), (44, (lookQ L2 44)), (45, (lookQ L2 45)), (46, (lookQ L2 46)), (52, (lookQ L2 52))] H16 e17) (
 I.ta (lookQ L2 0) 408 true fun v20 =>
 I.ext v20 0 fun v21 =>
 I.ext v20 1 fun v22 =>
 I.gd v22 true (fun K23 => K23 v21 H16 e17) H16 e17 fun v24 H25 e26 =>
 I.gd v22 true (fun K27 => K27 (lookQ L2 1) H25 e26) H25 e26 fun v28 H29 e30 =>
 I.gd v22 true (fun K31 => I.inv KK v24 "Is" [v28] H29 fun v35 H36 f37 => (fun e38 =>
 K31 v35 H36 e38) (escQ f37 e30)) H29 e30 fun v32 H33 e34 =>
 I.pick v22 v32 (.bool false) fun v39 =>
 I.cond v39 (
 k5 .ret [(0, (lookQ L2 0)), (1, (lookQ L2 1)), (2, (lookQ L2 2)), (6, (.bool true)), (7, v21), (8, v22), (9, (lookQ L2 9)), (10, (lookQ L2 10)), (12, (lookQ L2 12)), (19, v19), (30, v39), (31, (lookQ L2 31)), (33, (lookQ L2 33)), (34, (lookQ L2 34)), (38, (lookQ L2 38)), (40, (lookQ L2 40)), (41, (lookQ L2 41)), (43, (lookQ L2 43)), (44, (lookQ L2 44)), (45, (lookQ L2 45)), (46, (lookQ L2 46)), (52, (lookQ L2 52))] H33 e34) (
 I.ta (lookQ L2 0) 411 true fun v40 =>
 I.ext v40 1 fun v41 =>
 I.ext v40 0 fun v42 =>
 I.cond v41 (
 I.inv KK v42 "Unwrap" [] H33 fun v43 H44 f45 => (fun e46 =>
 I.bin .eql 137 true v43 .nili fun v47 =>
 I.cond v47 (
 k5 .ret [(0, v43), (1, (lookQ L2 1)), (2, (lookQ L2 2)), (6, (.bool false)), (7, v21), (8, v22), (9, v42), (10, (lookQ L2 10)), (12, (lookQ L2 12)), (19, v19), (30, v39), (31, (lookQ L2 0)), (33, v41), (34, v42), (38, v47), (40, (lookQ L2 40)), (41, (lookQ L2 41)), (43, (lookQ L2 43)), (44, (lookQ L2 44)), (45, (lookQ L2 45)), (46, (lookQ L2 46)), (52, (lookQ L2 52))] H44 e46) (
 k5 .normal [(0, v43), (1, (lookQ L2 1)), (2, (lookQ L2 2)), (6, (lookQ L2 6)), (7, v21), (8, v22), (9, v42), (10, (lookQ L2 10)), (12, (lookQ L2 12)), (19, v19), (30, v39), (31, (lookQ L2 0)), (33, v41), (34, v42), (38, v47), (40, (lookQ L2 40)), (41, (lookQ L2 41)), (43, (lookQ L2 43)), (44, (lookQ L2 44)), (45, (lookQ L2 45)), (46, (lookQ L2 46)), (52, (lookQ L2 52))] H44 e46)) (escQ f45 e34)) (
 I.ta (lookQ L2 0) 412 true fun v48 =>
 I.ext v48 1 fun v49 =>
 I.ext v48 0 fun v50 =>
 I.cond v49 (
 I.inv KK v50 "Unwrap" [] H33 fun v51 H52 f53 => (fun e54 =>
 I.len v51 fun v55 =>
 I.head n0 61572651155462 [(0, (lookQ L2 0)), (1, (lookQ L2 1)), (2, (lookQ L2 2)), (6, (lookQ L2 6)), (7, v21), (8, v22), (9, (lookQ L2 9)), (10, v50), (12, (lookQ L2 12)), (19, v19), (30, v39), (31, (lookQ L2 0)), (33, v41), (34, v42), (38, (lookQ L2 38)), (40, v49), (41, v50), (43, v51), (44, v55), (45, (.int .i64 0)), (46, (lookQ L2 46)), (52, (lookQ L2 52))] H52 e54 fun L56 H57 => loopM I n0 61572651155462 (fun L58 H59 e60 k61 =>
 I.bin .lss 3 false (lookQ L58 45) (lookQ L58 44) fun v62 =>
 I.cond v62 (
 I.ia 413 (lookQ L58 43) (lookQ L58 45) fun v63 =>
 I.load 137 H59 v63 fun v64 =>
 KK 214 [v64, (lookQ L58 1), (lookQ L58 2)] H59 fun v65 H66 f67 => (fun e68 =>
 I.cond v65 (
 k61 .ret [(0, (lookQ L58 0)), (1, (lookQ L58 1)), (2, (lookQ L58 2)), (6, (.bool true)), (7, (lookQ L58 7)), (8, (lookQ L58 8)), (9, (lookQ L58 9)), (10, (lookQ L58 10)), (12, v64), (19, (lookQ L58 19)), (30, (lookQ L58 30)), (31, (lookQ L58 31)), (33, (lookQ L58 33)), (34, (lookQ L58 34)), (38, (lookQ L58 38)), (40, (lookQ L58 40)), (41, (lookQ L58 41)), (43, (lookQ L58 43)), (44, (lookQ L58 44)), (45, (lookQ L58 45)), (46, v62), (52, v65)] H66 e68) (
 I.bin .add 3 true (lookQ L58 45) (.int .i64 1) fun v69 =>
 k61 .normal [(0, (lookQ L58 0)), (1, (lookQ L58 1)), (2, (lookQ L58 2)), (6, (lookQ L58 6)), (7, (lookQ L58 7)), (8, (lookQ L58 8)), (9, (lookQ L58 9)), (10, (lookQ L58 10)), (12, v64), (19, (lookQ L58 19)), (30, (lookQ L58 30)), (31, (lookQ L58 31)), (33, (lookQ L58 33)), (34, (lookQ L58 34)), (38, (lookQ L58 38)), (40, (lookQ L58 40)), (41, (lookQ L58 41)), (43, (lookQ L58 43)), (44, (lookQ L58 44)), (45, v69), (46, v62), (52, v65)] H66 e68)) (escQ f67 e60)) (
 k61 (.exit 3) [(0, (lookQ L58 0)), (1, (lookQ L58 1)), (2, (lookQ L58 2)), (6, (lookQ L58 6)), (7, (lookQ L58 7)), (8, (lookQ L58 8)), (9, (lookQ L58 9)), (10, (lookQ L58 10)), (12, (lookQ L58 12)), (19, (lookQ L58 19)), (30, (lookQ L58 30)), (31, (lookQ L58 31)), (33, (lookQ L58 33)), (34, (lookQ L58 34)), (38, (lookQ L58 38)), (40, (lookQ L58 40)), (41, (lookQ L58 41)), (43, (lookQ L58 43)), (44, (lookQ L58 44)), (45, (lookQ L58 45)), (46, v62), (52, (lookQ L58 52))] H59 e60)) fuel L56 H57 e54 (selK I.bot [(3, (fun L70 H71 e72 =>
 k5 .ret [(0, (lookQ L70 0)), (1, (lookQ L70 1)), (2, (lookQ L70 2)), (6, (.bool false)), (7, (lookQ L70 7)), (8, (lookQ L70 8)), (9, (lookQ L70 9)), (10, (lookQ L70 10)), (12, (lookQ L70 12)), (19, (lookQ L70 19)), (30, (lookQ L70 30)), (31, (lookQ L70 31)), (33, (lookQ L70 33)), (34, (lookQ L70 34)), (38, (lookQ L70 38)), (40, (lookQ L70 40)), (41, (lookQ L70 41)), (43, (lookQ L70 43)), (44, (lookQ L70 44)), (45, (lookQ L70 45)), (46, (lookQ L70 46)), (52, (lookQ L70 52))] H71 e72))] (fun L73 H74 e75 =>
 k5 .ret [(0, (lookQ L73 0)), (1, (lookQ L73 1)), (2, (lookQ L73 2)), (6, (lookQ L73 6)), (7, (lookQ L73 7)), (8, (lookQ L73 8)), (9, (lookQ L73 9)), (10, (lookQ L73 10)), (12, (lookQ L73 12)), (19, (lookQ L73 19)), (30, (lookQ L73 30)), (31, (lookQ L73 31)), (33, (lookQ L73 33)), (34, (lookQ L73 34)), (38, (lookQ L73 38)), (40, (lookQ L73 40)), (41, (lookQ L73 41)), (43, (lookQ L73 43)), (44, (lookQ L73 44)), (45, (lookQ L73 45)), (46, (lookQ L73 46)), (52, (lookQ L73 52))] H74 e75))) (escQ f53 e34)) (
 k5 .ret [(0, (lookQ L2 0)), (1, (lookQ L2 1)), (2, (lookQ L2 2)), (6, (.bool false)), (7, v21), (8, v22), (9, (lookQ L2 9)), (10, (lookQ L2 10)), (12, (lookQ L2 12)), (19, v19), (30, v39), (31, (lookQ L2 0)), (33, v41), (34, v42), (38, (lookQ L2 38)), (40, v49), (41, v50), (43, (lookQ L2 43)), (44, (lookQ L2 44)), (45, (lookQ L2 45)), (46, (lookQ L2 46)), (52, (lookQ L2 52))] H33 e34))))) fuel L0 H1 false (selK I.bot [(3, (fun L76 H77 e78 =>
 I.bot))] (fun L79 H80 e81 =>
 I.fin n0 H80 e81 [(lookQ L79 6)] k))) (lenQ H)
  | _ => I.bot⟩
theorem ok214 (R : Type) : TxtOk Tryz.prog U ann 214 (r214 R) := fun I fuel KO KK args H k => match args with
  | [] => .inl rfl
  | [_] => .inl rfl
  | [_, _] => .inl rfl
  | [a0, a1, a2] => .inr (by kernel_rfl)
  | _ :: _ :: _ :: _ :: _ => .inl rfl
/-- silt/anchor.read -/
noncomputable def r222 (R : Type) : Bx (Txt R) := ⟨fun I fuel KO KK args H k => match args with
  | [a0, a1] => (fun n0 =>
 I.alloc 27 H fun v0 H1 =>
 I.alloc 270 H1 fun v2 H3 =>
 I.head n0 4179 [(0, a0), (1, a1), (4, v0), (5, .nili), (6, v2), (7, .bad), (8, .bad), (9, .bad), (10, .bad), (11, .bad), (12, (.int .i64 0)), (13, .bad), (25, .bad), (55, .bad)] H3 false fun L4 H5 => loopM I n0 4179 (fun L6 H7 e8 k9 =>
 I.bin .lss 3 true (lookQ L6 12) (.int .i64 2) fun v10 =>
 I.cond v10 (
 I.bin .mul 3 true (.int .i64 2) (lookQ L6 1) fun v11 =>
 I.bin .add 3 false v11 (lookQ L6 12) fun v12 =>
 KK 172 [(lookQ L6 0), v12] H7 fun v13 H14 f15 => (fun e16 =>
 I.ext v13 0 fun v17 =>
 I.ext v13 1 fun v18 =>
 I.alloc 269 H14 fun v19 H20 =>
 I.store n0 269 H20 v19 v17 fun H21 f22 => (fun e23 =>
 I.bin .neq 33 true v18 (.int .i64 0) fun v24 =>
 I.cond v24 (
 I.build 27 [] fun v25 =>
 KK 153 [(.int .i64 13), (.str ⟨#[114, 101, 97, 100]⟩)] H21 fun v26 H27 f28 => (fun e29 =>
 KK 86 [v26, (.str ⟨#[114, 101, 103, 105, 111, 110]⟩)] H27 fun v30 H31 f32 => (fun e33 =>
 I.store n0 27 H31 (lookQ L6 4) v25 fun H34 f35 => (fun e36 =>
 k9 .ret [(0, (lookQ L6 0)), (1, (lookQ L6 1)), (4, (lookQ L6 4)), (5, v30), (6, (lookQ L6 6)), (7, (lookQ L6 12)), (8, v19), (9, v18), (10, (lookQ L6 10)), (11, (lookQ L6 11)), (12, (lookQ L6 12)), (13, v10), (25, v24), (55, (lookQ L6 55))] H34 e36) (escQ f35 e33)) (escQ f32 e29)) (escQ f28 e23)) (
 I.load 269 H21 v19 fun v37 =>
 I.ia 270 (lookQ L6 6) (lookQ L6 12) fun v38 =>
 I.store n0 269 H21 v38 v37 fun H39 f40 => (fun e41 =>
 I.bin .add 3 true (lookQ L6 12) (.int .i64 1) fun v42 =>
 k9 .normal [(0, (lookQ L6 0)), (1, (lookQ L6 1)), (4, (lookQ L6 4)), (5, (lookQ L6 5)), (6, (lookQ L6 6)), (7, (lookQ L6 12)), (8, v19), (9, v18), (10, (lookQ L6 10)), (11, (lookQ L6 11)), (12, v42), (13, v10), (25, v24), (55, (lookQ L6 55))] H39 e41) (escQ f40 e23))) (escQ f22 e16)) (escQ f15 e8)) (
 k9 (.exit 0) [(0, (lookQ L6 0)), (1, (lookQ L6 1)), (4, (lookQ L6 4)), (5, (lookQ L6 5)), (6, (lookQ L6 6)), (7, (lookQ L6 7)), (8, (lookQ L6 8)), (9, (lookQ L6 9)), (10, (lookQ L6 10)), (11, (lookQ L6 11)), (12, (lookQ L6 12)), (13, v10), (25, (lookQ L6 25)), (55, (lookQ L6 55))] H7 e8)) fuel L4 H5 false (selK I.bot [(0, (fun L43 H44 e45 =>
 I.load 270 H44 (lookQ L43 6) fun v46 =>
 KK 279 [v46] H44 fun v47 H48 f49 => (fun e50 =>
 I.ext v47 0 fun v51 =>
 I.ext v47 1 fun v52 =>
 I.alloc 27 H48 fun v53 H54 =>
 I.store n0 27 H54 v53 v51 fun H55 f56 => (fun e57 =>
 I.bin .neq 33 true v52 (.int .i64 0) fun v58 =>
 I.gd v58 false (fun K59 => I.fa 27 0 v53 fun v63 =>
 K59 v63 H55 e57) H55 e57 fun v60 H61 e62 =>
 I.gd v58 false (fun K64 => I.load 22 H61 v60 fun v68 =>
 K64 v68 H61 e62) H61 e62 fun v65 H66 e67 =>
 I.gd v58 false (fun K69 => I.bin .rem 22 true v65 (.int .u32 2) fun v73 =>
 K69 v73 H66 e67) H66 e67 fun v70 H71 e72 =>
 I.gd v58 false (fun K74 => I.conv 22 3 v70 H71 fun v78 H79 =>
 K74 v78 H79 e72) H71 e72 fun v75 H76 e77 =>
 I.gd v58 false (fun K80 => K80 (lookQ L43 1) H76 e77) H76 e77 fun v81 H82 e83 =>
 I.gd v58 false (fun K84 => I.bin .neq 3 false v75 v81 fun v88 =>
 K84 v88 H82 e83) H82 e83 fun v85 H86 e87 =>
 I.pick v58 (.bool true) v85 fun v89 =>
 I.gd v89 false (fun K90 => K90 (lookQ L43 0) H86 e87) H86 e87 fun v91 H92 e93 =>
 I.gd v89 false (fun K94 => I.fa 27 1 v53 fun v98 =>
 K94 v98 H92 e93) H92 e93 fun v95 H96 e97 =>
 I.gd v89 false (fun K99 => I.load 24 H96 v95 fun v103 =>
 K99 v103 H96 e97) H96 e97 fun v100 H101 e102 =>
 I.gd v89 false (fun K104 => KK 74 [v91] H101 fun v108 H109 f110 => (fun e111 =>
 K104 v108 H109 e111) (escQ f110 e102)) H101 e102 fun v105 H106 e107 =>
 I.gd v89 false (fun K112 => KK 75 [v100] H106 fun v116 H117 f118 => (fun e119 =>
 K112 v116 H117 e119) (escQ f118 e107)) H106 e107 fun v113 H114 e115 =>
 I.gd v89 false (fun K120 => I.bin .lss 3 false v105 v113 fun v124 =>
 K120 v124 H114 e115) H114 e115 fun v121 H122 e123 =>
 I.pick v89 (.bool true) v121 fun v125 =>
 I.cg v89 false (fun r126 => I.load 24 H106 v95 fun v127 =>
 I.same v127 v100 (
 r126)) (
 I.cond v125 (
 I.build 27 [] fun v128 =>
 KK 153 [(.int .i64 13), (.str ⟨#[100, 101, 99, 111, 100, 101]⟩)] H122 fun v129 H130 f131 => (fun e132 =>
 KK 86 [v129, (.str ⟨#[114, 101, 103, 105, 111, 110]⟩)] H130 fun v133 H134 f135 => (fun e136 =>
 I.store n0 27 H134 (lookQ L43 4) v128 fun H137 f138 => (fun e139 =>
 I.load 27 H137 (lookQ L43 4) fun v140 =>
 I.fin n0 H137 e139 [v140, v133] k) (escQ f138 e136)) (escQ f135 e132)) (escQ f131 e123)) (
 I.load 27 H122 v53 fun v141 =>
 I.store n0 27 H122 (lookQ L43 4) v141 fun H142 f143 => (fun e144 =>
 I.load 27 H142 (lookQ L43 4) fun v145 =>
 I.fin n0 H142 e144 [v145, .nili] k) (escQ f143 e123)))) (escQ f56 e50)) (escQ f49 e45)))] (fun L146 H147 e148 =>
 I.load 27 H147 (lookQ L146 4) fun v149 =>
 I.fin n0 H147 e148 [v149, (lookQ L146 5)] k))) (lenQ H)
  | _ => I.bot⟩
theorem ok222 (R : Type) : TxtOk Tryz.prog U ann 222 (r222 R) := fun I fuel KO KK args H k => match args with
  | [] => .inl rfl
  | [_] => .inl rfl
  | [a0, a1] => .inr (by kernel_rfl)
  | _ :: _ :: _ :: _ => .inl rfl
/-- silt/mappage.Join -/
noncomputable def r223 (R : Type) : Bx (Txt R) := ⟨fun I fuel KO KK args H k => match args with
  | [a0, a1] => (fun n0 =>
 I.box a0 H fun v0 H1 =>
 I.load 24 H1 v0 fun v2 =>
 KK 73 [v2] H1 fun v3 H4 f5 => (fun e6 =>
 I.un .not v3 fun v7 =>
 I.cond v7 (
 I.fin n0 H4 e6 [.nils, (.int .i64 1)] k) (
 I.len a1 fun v8 =>
 I.load 24 H4 v0 fun v9 =>
 KK 96 [v9] H4 fun v10 H11 f12 => (fun e13 =>
 I.bin .neq 3 false v8 v10 fun v14 =>
 I.cond v14 (
 I.fin n0 H11 e13 [.nils, (.int .i64 11)] k) (
 I.len a1 fun v15 =>
 I.head n0 14680134 [(0, a0), (1, a1), (2, v0), (4, .nils), (5, (.int .i64 0)), (6, .nils), (8, .bad), (9, .bad), (10, .bad), (11, .bad), (12, .bad), (15, v7), (20, v14), (21, a1), (22, v15), (23, (.int .i64 0)), (24, .bad), (43, .bad), (44, .bad), (45, .bad), (46, .bad), (47, .bad), (57, .bad)] H11 e13 fun L16 H17 => loopM I n0 14680134 (fun L18 H19 e20 k21 =>
 I.bin .lss 3 false (lookQ L18 23) (lookQ L18 22) fun v22 =>
 I.cond v22 (
 I.ia 264 (lookQ L18 21) (lookQ L18 23) fun v23 =>
 I.load 158 H19 v23 fun v24 =>
 I.alloc 158 H19 fun v25 H26 =>
 I.store n0 158 H26 v25 v24 fun H27 f28 => (fun e29 =>
 I.fa 158 6 v25 fun v30 =>
 I.slice 25 H27 v30 none none fun v31 =>
 I.blt true .append #[28, 28] n0 [(lookQ L18 6), v31] H27 fun v32 H33 f34 => (fun e35 =>
 I.bin .add 3 true (lookQ L18 23) (.int .i64 1) fun v36 =>
 k21 .normal [(0, (lookQ L18 0)), (1, (lookQ L18 1)), (2, (lookQ L18 2)), (4, (lookQ L18 4)), (5, (lookQ L18 5)), (6, v32), (8, v25), (9, (lookQ L18 9)), (10, (lookQ L18 10)), (11, (lookQ L18 11)), (12, (lookQ L18 12)), (15, (lookQ L18 15)), (20, (lookQ L18 20)), (21, (lookQ L18 21)), (22, (lookQ L18 22)), (23, v36), (24, v22), (43, (lookQ L18 43)), (44, (lookQ L18 44)), (45, (lookQ L18 45)), (46, (lookQ L18 46)), (47, (lookQ L18 47)), (57, (lookQ L18 57))] H33 e35) (escQ f34 e29)) (escQ f28 e20)) (
 k21 (.exit 0) [(0, (lookQ L18 0)), (1, (lookQ L18 1)), (2, (lookQ L18 2)), (4, (lookQ L18 4)), (5, (lookQ L18 5)), (6, (lookQ L18 6)), (8, (lookQ L18 8)), (9, (lookQ L18 9)), (10, (lookQ L18 10)), (11, (lookQ L18 11)), (12, (lookQ L18 12)), (15, (lookQ L18 15)), (20, (lookQ L18 20)), (21, (lookQ L18 21)), (22, (lookQ L18 22)), (23, (lookQ L18 23)), (24, v22), (43, (lookQ L18 43)), (44, (lookQ L18 44)), (45, (lookQ L18 45)), (46, (lookQ L18 46)), (47, (lookQ L18 47)), (57, (lookQ L18 57))] H19 e20)) fuel L16 H17 e13 (selK I.bot [(0, (fun L37 H38 e39 =>
 I.fa 24 0 (lookQ L37 2) fun v40 =>
 I.load 3 H38 v40 fun v41 =>
 I.slice 28 H38 (lookQ L37 6) none (some v41) fun v42 =>
 I.load 24 H38 (lookQ L37 2) fun v43 =>
 KK 175 [v43, v42] H38 fun v44 H45 f46 => (fun e47 =>
 I.ext v44 0 fun v48 =>
 I.ext v44 1 fun v49 =>
 I.bin .neq 33 true v49 (.int .i64 0) fun v50 =>
 I.cond v50 (
 I.fin n0 H45 e47 [.nils, (.int .i64 11)] k) (
 I.len v48 fun v51 =>
 I.head n0 123145302310978 [(0, (lookQ L37 0)), (1, (lookQ L37 1)), (2, (lookQ L37 2)), (4, (lookQ L37 4)), (5, (lookQ L37 5)), (6, v42), (8, (lookQ L37 8)), (9, v48), (10, v49), (11, (lookQ L37 11)), (12, (lookQ L37 12)), (15, (lookQ L37 15)), (20, (lookQ L37 20)), (21, (lookQ L37 21)), (22, (lookQ L37 22)), (23, (lookQ L37 23)), (24, (lookQ L37 24)), (43, v50), (44, v48), (45, v51), (46, (.int .i64 0)), (47, (lookQ L37 47)), (57, (lookQ L37 57))] H45 e47 fun L52 H53 => loopM I n0 123145302310978 (fun L54 H55 e56 k57 =>
 I.bin .lss 3 false (lookQ L54 46) (lookQ L54 45) fun v58 =>
 I.cond v58 (
 I.ia 264 (lookQ L54 44) (lookQ L54 46) fun v59 =>
 I.load 158 H55 v59 fun v60 =>
 I.alloc 158 H55 fun v61 H62 =>
 I.store n0 158 H62 v61 v60 fun H63 f64 => (fun e65 =>
 I.load 158 H63 v61 fun v66 =>
 I.ia 264 (lookQ L54 1) (lookQ L54 46) fun v67 =>
 I.load 158 H63 v67 fun v68 =>
 KK 280 [v66, v68] H63 fun v69 H70 f71 => (fun e72 =>
 I.un .not v69 fun v73 =>
 I.cond v73 (
 k57 .ret [(0, (lookQ L54 0)), (1, (lookQ L54 1)), (2, (lookQ L54 2)), (4, .nils), (5, (.int .i64 11)), (6, (lookQ L54 6)), (8, (lookQ L54 8)), (9, (lookQ L54 9)), (10, (lookQ L54 10)), (11, (lookQ L54 46)), (12, v61), (15, (lookQ L54 15)), (20, (lookQ L54 20)), (21, (lookQ L54 21)), (22, (lookQ L54 22)), (23, (lookQ L54 23)), (24, (lookQ L54 24)), (43, (lookQ L54 43)), (44, (lookQ L54 44)), (45, (lookQ L54 45)), (46, (lookQ L54 46)), (47, v58), (57, v73)] H70 e72) (
 I.bin .add 3 true (lookQ L54 46) (.int .i64 1) fun v74 =>
 k57 .normal [(0, (lookQ L54 0)), (1, (lookQ L54 1)), (2, (lookQ L54 2)), (4, (lookQ L54 4)), (5, (lookQ L54 5)), (6, (lookQ L54 6)), (8, (lookQ L54 8)), (9, (lookQ L54 9)), (10, (lookQ L54 10)), (11, (lookQ L54 46)), (12, v61), (15, (lookQ L54 15)), (20, (lookQ L54 20)), (21, (lookQ L54 21)), (22, (lookQ L54 22)), (23, (lookQ L54 23)), (24, (lookQ L54 24)), (43, (lookQ L54 43)), (44, (lookQ L54 44)), (45, (lookQ L54 45)), (46, v74), (47, v58), (57, v73)] H70 e72)) (escQ f71 e65)) (escQ f64 e56)) (
 k57 (.exit 2) [(0, (lookQ L54 0)), (1, (lookQ L54 1)), (2, (lookQ L54 2)), (4, (lookQ L54 4)), (5, (lookQ L54 5)), (6, (lookQ L54 6)), (8, (lookQ L54 8)), (9, (lookQ L54 9)), (10, (lookQ L54 10)), (11, (lookQ L54 11)), (12, (lookQ L54 12)), (15, (lookQ L54 15)), (20, (lookQ L54 20)), (21, (lookQ L54 21)), (22, (lookQ L54 22)), (23, (lookQ L54 23)), (24, (lookQ L54 24)), (43, (lookQ L54 43)), (44, (lookQ L54 44)), (45, (lookQ L54 45)), (46, (lookQ L54 46)), (47, v58), (57, (lookQ L54 57))] H55 e56)) fuel L52 H53 e47 (selK I.bot [(2, (fun L75 H76 e77 =>
 I.fin n0 H76 e77 [(lookQ L75 6), (.int .i64 0)] k))] (fun L78 H79 e80 =>
 I.fin n0 H79 e80 [(lookQ L78 4), (lookQ L78 5)] k)))) (escQ f46 e39)))] (fun _ _ _ => I.bot)))) (escQ f12 e6))) (escQ f5 false)) (lenQ H)
  | _ => I.bot⟩
theorem ok223 (R : Type) : TxtOk Tryz.prog U ann 223 (r223 R) := fun I fuel KO KK args H k => match args with
  | [] => .inl rfl
  | [_] => .inl rfl
  | [a0, a1] => .inr (by kernel_rfl)
  | _ :: _ :: _ :: _ => .inl rfl
/-- silt/heads.Count -/
noncomputable def r224 (R : Type) : Bx (Txt R) := ⟨fun I fuel KO KK args H k => match args with
  | [a0] => (fun n0 =>
 I.len a0 fun v0 =>
 I.head n0 456 [(0, a0), (2, (.int .i64 0)), (3, (.int .i64 0)), (5, .bad), (6, a0), (7, v0), (8, (.int .i64 0)), (9, .bad), (13, .bad)] H false fun L1 H2 => loopM I n0 456 (fun L3 H4 e5 k6 =>
 I.bin .lss 3 false (lookQ L3 8) (lookQ L3 7) fun v7 =>
 I.cond v7 (
 I.join (fun L8 H9 e10 =>
 I.bin .add 3 true (lookQ L8 8) (.int .i64 1) fun v11 =>
 k6 .normal [(0, (lookQ L8 0)), (2, (lookQ L8 2)), (3, (lookQ L8 3)), (5, (lookQ L8 5)), (6, (lookQ L8 6)), (7, (lookQ L8 7)), (8, v11), (9, (lookQ L8 9)), (13, (lookQ L8 13))] H9 e10) fun j12 =>
 I.ia 28 (lookQ L3 6) (lookQ L3 8) fun v13 =>
 I.load 3 H4 v13 fun v14 =>
 I.bin .neq 3 true v14 (.int .i64 0) fun v15 =>
 I.cond v15 (
 I.bin .add 3 true (lookQ L3 3) (.int .i64 1) fun v16 =>
 j12 [(0, (lookQ L3 0)), (2, (lookQ L3 2)), (3, v16), (5, v14), (6, (lookQ L3 6)), (7, (lookQ L3 7)), (8, (lookQ L3 8)), (9, v7), (13, v15)] H4 e5) (
 j12 [(0, (lookQ L3 0)), (2, (lookQ L3 2)), (3, (lookQ L3 3)), (5, v14), (6, (lookQ L3 6)), (7, (lookQ L3 7)), (8, (lookQ L3 8)), (9, v7), (13, v15)] H4 e5)) (
 k6 (.exit 0) [(0, (lookQ L3 0)), (2, (lookQ L3 2)), (3, (lookQ L3 3)), (5, (lookQ L3 5)), (6, (lookQ L3 6)), (7, (lookQ L3 7)), (8, (lookQ L3 8)), (9, v7), (13, (lookQ L3 13))] H4 e5)) fuel L1 H2 false (selK I.bot [(0, (fun L17 H18 e19 =>
 I.fin n0 H18 e19 [(lookQ L17 3)] k))] (fun _ _ _ => I.bot))) (lenQ H)
  | _ => I.bot⟩
theorem ok224 (R : Type) : TxtOk Tryz.prog U ann 224 (r224 R) := fun I fuel KO KK args H k => match args with
  | [] => .inl rfl
  | [a0] => .inr (by kernel_rfl)
  | _ :: _ :: _ => .inl rfl
/-- (silt/scan.log).next -/
noncomputable def r227 (R : Type) : Bx (Txt R) := ⟨fun I fuel KO KK args H k => match args with
  | [a0, a1] => (fun n0 =>
 I.box a0 H fun v0 H1 =>
 I.box a1 H1 fun v2 H3 =>
 I.alloc 260 H3 fun v4 H5 =>
 I.alloc 30 H5 fun v6 H7 =>
 I.load 359 H7 v0 fun v8 =>
 I.load 30 H7 v2 fun v9 =>
 KK 283 [v8, v9] H7 fun v10 H11 f12 => (fun e13 =>
 I.ext v10 0 fun v14 =>
 I.ext v10 1 fun v15 =>
 I.ext v10 2 fun v16 =>
 I.alloc 260 H11 fun v17 H18 =>
 I.alloc 30 H18 fun v19 H20 =>
 I.store n0 260 H20 v17 v14 fun H21 f22 => (fun e23 =>
 I.store n0 30 H21 v19 v15 fun H24 f25 => (fun e26 =>
 I.mkI 33 (.int .i64 17) fun v27 =>
 KK 143 [v16, v27] H24 fun v28 H29 f30 => (fun e31 =>
 I.un .not v28 fun v32 =>
 I.gd v32 false (fun K33 => I.fa 30 3 v2 fun v37 =>
 K33 v37 H29 e31) H29 e31 fun v34 H35 e36 =>
 I.gd v32 false (fun K38 => I.load 28 H35 v34 fun v42 =>
 K38 v42 H35 e36) H35 e36 fun v39 H40 e41 =>
 I.gd v32 false (fun K43 => I.len v39 fun v47 =>
 K43 v47 H40 e41) H40 e41 fun v44 H45 e46 =>
 I.gd v32 false (fun K48 => I.bin .eql 3 true v44 (.int .i64 0) fun v52 =>
 K48 v52 H45 e46) H45 e46 fun v49 H50 e51 =>
 I.pick v32 (.bool true) v49 fun v53 =>
 I.cond v53 (
 I.load 260 H50 v17 fun v54 =>
 I.load 30 H50 v19 fun v55 =>
 I.store n0 260 H50 v4 v54 fun H56 f57 => (fun e58 =>
 I.store n0 30 H56 v6 v55 fun H59 f60 => (fun e61 =>
 I.load 30 H56 v19 fun v62 =>
 I.same v62 v55 (
 I.load 260 H59 v4 fun v63 =>
 I.load 30 H59 v6 fun v64 =>
 I.fin n0 H59 e61 [v63, v64, v16] k)) (escQ f60 e58)) (escQ f57 e51)) (
 I.fa 30 3 v2 fun v65 =>
 I.load 28 H50 v65 fun v66 =>
 I.ia 28 v66 (.int .i64 0) fun v67 =>
 I.load 3 H50 v67 fun v68 =>
 I.fa 30 3 v2 fun v69 =>
 I.load 28 H50 v69 fun v70 =>
 I.slice 28 H50 v70 (some (.int .i64 1)) none fun v71 =>
 I.fa 30 0 v2 fun v72 =>
 I.store n0 3 H50 v72 v68 fun H73 f74 => (fun e75 =>
 I.fa 30 1 v2 fun v76 =>
 I.store n0 3 H73 v76 (.int .i64 0) fun H77 f78 => (fun e79 =>
 I.fa 30 3 v2 fun v80 =>
 I.store n0 28 H77 v80 v71 fun H81 f82 => (fun e83 =>
 I.slice 28 H73 v70 (some (.int .i64 1)) none fun v84 =>
 I.same v84 v71 (
 I.slice 28 H77 v70 (some (.int .i64 1)) none fun v85 =>
 I.same v85 v71 (
 I.load 359 H81 v0 fun v86 =>
 I.load 30 H81 v2 fun v87 =>
 KK 283 [v86, v87] H81 fun v88 H89 f90 => (fun e91 =>
 I.ext v88 0 fun v92 =>
 I.ext v88 1 fun v93 =>
 I.ext v88 2 fun v94 =>
 I.store n0 260 H89 v4 v92 fun H95 f96 => (fun e97 =>
 I.store n0 30 H95 v6 v93 fun H98 f99 => (fun e100 =>
 I.load 260 H98 v4 fun v101 =>
 I.load 30 H98 v6 fun v102 =>
 I.fin n0 H98 e100 [v101, v102, v94] k) (escQ f99 e97)) (escQ f96 e91)) (escQ f90 e83)))) (escQ f82 e79)) (escQ f78 e75)) (escQ f74 e51))) (escQ f30 e26)) (escQ f25 e23)) (escQ f22 e13)) (escQ f12 false)) (lenQ H)
  | _ => I.bot⟩
theorem ok227 (R : Type) : TxtOk Tryz.prog U ann 227 (r227 R) := fun I fuel KO KK args H k => match args with
  | [] => .inl rfl
  | [_] => .inl rfl
  | [a0, a1] => .inr (by kernel_rfl)
  | _ :: _ :: _ :: _ => .inl rfl
/-- silt/region.wrong -/
noncomputable def r238 (R : Type) : Bx (Txt R) := ⟨fun I fuel KO KK args H k => match args with
  | [a0] => (fun n0 =>
 I.box a0 H fun v0 H1 =>
 I.fa 27 1 v0 fun v2 =>
 I.load 24 H1 v2 fun v3 =>
 KK 73 [v3] H1 fun v4 H5 f6 => (fun e7 =>
 I.un .not v4 fun v8 =>
 I.cond v8 (
 KK 153 [(.int .i64 11), (.str ⟨#[103, 101, 111, 109, 101, 116, 114, 121]⟩)] H5 fun v9 H10 f11 => (fun e12 =>
 I.fin n0 H10 e12 [v9] k) (escQ f11 e7)) (
 I.fa 27 2 v0 fun v13 =>
 I.load 3 H5 v13 fun v14 =>
 I.bin .lss 3 true v14 (.int .i64 0) fun v15 =>
 I.gd v15 false (fun K16 => I.fa 27 2 v0 fun v20 =>
 K16 v20 H5 e7) H5 e7 fun v17 H18 e19 =>
 I.gd v15 false (fun K21 => I.load 3 H18 v17 fun v25 =>
 K21 v25 H18 e19) H18 e19 fun v22 H23 e24 =>
 I.gd v15 false (fun K26 => I.fa 27 1 v0 fun v30 =>
 K26 v30 H23 e24) H23 e24 fun v27 H28 e29 =>
 I.gd v15 false (fun K31 => I.fa 24 1 v27 fun v35 =>
 K31 v35 H28 e29) H28 e29 fun v32 H33 e34 =>
 I.gd v15 false (fun K36 => I.load 3 H33 v32 fun v40 =>
 K36 v40 H33 e34) H33 e34 fun v37 H38 e39 =>
 I.gd v15 false (fun K41 => I.bin .geq 3 false v22 v37 fun v45 =>
 K41 v45 H38 e39) H38 e39 fun v42 H43 e44 =>
 I.pick v15 (.bool true) v42 fun v46 =>
 I.gd v46 false (fun K47 => I.fa 27 3 v0 fun v51 =>
 K47 v51 H43 e44) H43 e44 fun v48 H49 e50 =>
 I.gd v46 false (fun K52 => I.load 3 H49 v48 fun v56 =>
 K52 v56 H49 e50) H49 e50 fun v53 H54 e55 =>
 I.gd v46 false (fun K57 => I.bin .lss 3 true v53 (.int .i64 0) fun v61 =>
 K57 v61 H54 e55) H54 e55 fun v58 H59 e60 =>
 I.pick v46 (.bool true) v58 fun v62 =>
 I.gd v62 false (fun K63 => I.fa 27 3 v0 fun v67 =>
 K63 v67 H59 e60) H59 e60 fun v64 H65 e66 =>
 I.gd v62 false (fun K68 => I.load 3 H65 v64 fun v72 =>
 K68 v72 H65 e66) H65 e66 fun v69 H70 e71 =>
 I.gd v62 false (fun K73 => I.fa 27 1 v0 fun v77 =>
 K73 v77 H70 e71) H70 e71 fun v74 H75 e76 =>
 I.gd v62 false (fun K78 => I.fa 24 2 v74 fun v82 =>
 K78 v82 H75 e76) H75 e76 fun v79 H80 e81 =>
 I.gd v62 false (fun K83 => I.load 3 H80 v79 fun v87 =>
 K83 v87 H80 e81) H80 e81 fun v84 H85 e86 =>
 I.gd v62 false (fun K88 => I.bin .gtr 3 false v69 v84 fun v92 =>
 K88 v92 H85 e86) H85 e86 fun v89 H90 e91 =>
 I.pick v62 (.bool true) v89 fun v93 =>
 I.cond v93 (
 KK 153 [(.int .i64 11), (.str ⟨#[104, 101, 97, 100]⟩)] H90 fun v94 H95 f96 => (fun e97 =>
 I.fin n0 H95 e97 [v94] k) (escQ f96 e91)) (
 I.load 27 H90 v0 fun v98 =>
 KK 288 [v98] H90 fun v99 H100 f101 => (fun e102 =>
 KK 86 [v99, (.str ⟨#[114, 101, 103, 105, 111, 110]⟩)] H100 fun v103 H104 f105 => (fun e106 =>
 I.fin n0 H104 e106 [v103] k) (escQ f105 e102)) (escQ f101 e91)))) (escQ f6 false)) (lenQ H)
  | _ => I.bot⟩
theorem ok238 (R : Type) : TxtOk Tryz.prog U ann 238 (r238 R) := fun I fuel KO KK args H k => match args with
  | [] => .inl rfl
  | [a0] => .inr (by kernel_rfl)
  | _ :: _ :: _ => .inl rfl
/-- silt/region.four -/
noncomputable def r239 (R : Type) : Bx (Txt R) := ⟨fun I fuel KO KK args H k => match args with
  | [a0] => (fun n0 =>
 I.conv 22 5 a0 H fun v0 H1 =>
 I.bin .shr 22 true a0 (.int .u64 8) fun v2 =>
 I.conv 22 5 v2 H1 fun v3 H4 =>
 I.bin .shr 22 true a0 (.int .u64 16) fun v5 =>
 I.conv 22 5 v5 H4 fun v6 H7 =>
 I.bin .shr 22 true a0 (.int .u64 24) fun v8 =>
 I.conv 22 5 v8 H7 fun v9 H10 =>
 I.bslice 65 4 [(0, v0), (1, v3), (2, v6), (3, v9)] H10 fun v11 H12 =>
 I.fin n0 H12 false [v11] k) (lenQ H)
  | _ => I.bot⟩
theorem ok239 (R : Type) : TxtOk Tryz.prog U ann 239 (r239 R) := fun I fuel KO KK args H k => match args with
  | [] => .inl rfl
  | [a0] => .inr (by kernel_rfl)
  | _ :: _ :: _ => .inl rfl
/-- (*silt/dev.Dev).has -/
noncomputable def r240 (R : Type) : Bx (Txt R) := ⟨fun I fuel KO KK args H k => match args with
  | [a0, a1] => (fun n0 =>
 I.bin .geq 3 true a1 (.int .i64 0) fun v0 =>
 I.gd v0 true (fun K1 => K1 a1 H false) H false fun v2 H3 e4 =>
 I.gd v0 true (fun K5 => K5 a0 H3 e4) H3 e4 fun v6 H7 e8 =>
 I.gd v0 true (fun K9 => KK 74 [v6] H7 fun v13 H14 f15 => (fun e16 =>
 K9 v13 H14 e16) (escQ f15 e8)) H7 e8 fun v10 H11 e12 =>
 I.gd v0 true (fun K17 => I.bin .lss 3 false v2 v10 fun v21 =>
 K17 v21 H11 e12) H11 e12 fun v18 H19 e20 =>
 I.pick v0 v18 (.bool false) fun v22 =>
 I.fin n0 H19 e20 [v22] k) (lenQ H)
  | _ => I.bot⟩
theorem ok240 (R : Type) : TxtOk Tryz.prog U ann 240 (r240 R) := fun I fuel KO KK args H k => match args with
  | [] => .inl rfl
  | [_] => .inl rfl
  | [a0, a1] => .inr (by kernel_rfl)
  | _ :: _ :: _ :: _ => .inl rfl
/-- (*silt/dev.Dev).pass -/
noncomputable def r241 (R : Type) : Bx (Txt R) := ⟨fun I fuel KO KK args H k => match args with
  | [a0] => (fun n0 =>
 I.nil a0 fun v0 =>
 I.fa 144 2 v0 fun v1 =>
 I.load 3 H v1 fun v2 =>
 I.bin .eql 3 true v2 (.int .i64 0) fun v3 =>
 I.cond v3 (
 I.nil a0 fun v4 =>
 I.fa 144 2 v4 fun v5 =>
 I.store n0 3 H v5 (.int .i64 (-1)) fun H6 f7 => (fun e8 =>
 I.fin n0 H6 e8 [(.int .i64 12)] k) (escQ f7 false)) (
 I.join (fun L9 H10 e11 =>
 I.nil (lookQ L9 0) fun v12 =>
 I.fa 144 3 v12 fun v13 =>
 I.load 3 H10 v13 fun v14 =>
 I.bin .add 3 true v14 (.int .i64 1) fun v15 =>
 I.nil (lookQ L9 0) fun v16 =>
 I.fa 144 3 v16 fun v17 =>
 I.store n0 3 H10 v17 v15 fun H18 f19 => (fun e20 =>
 I.fin n0 H18 e20 [(.int .i64 0)] k) (escQ f19 e11)) fun j21 =>
 I.nil a0 fun v22 =>
 I.fa 144 2 v22 fun v23 =>
 I.load 3 H v23 fun v24 =>
 I.bin .gtr 3 true v24 (.int .i64 0) fun v25 =>
 I.cond v25 (
 I.nil a0 fun v26 =>
 I.fa 144 2 v26 fun v27 =>
 I.load 3 H v27 fun v28 =>
 I.bin .sub 3 true v28 (.int .i64 1) fun v29 =>
 I.nil a0 fun v30 =>
 I.fa 144 2 v30 fun v31 =>
 I.store n0 3 H v31 v29 fun H32 f33 => (fun e34 =>
 j21 [(0, a0), (2, (.int .i64 0)), (7, v3), (15, v25)] H32 e34) (escQ f33 false)) (
 j21 [(0, a0), (2, (.int .i64 0)), (7, v3), (15, v25)] H false))) (lenQ H)
  | _ => I.bot⟩
theorem ok241 (R : Type) : TxtOk Tryz.prog U ann 241 (r241 R) := fun I fuel KO KK args H k => match args with
  | [] => .inl rfl
  | [a0] => .inr (by kernel_rfl)
  | _ :: _ :: _ => .inl rfl
/-- silt/group.Lay -/
noncomputable def r242 (R : Type) : Bx (Txt R) := ⟨fun I fuel KO KK args H k => match args with
  | [a0, a1] => (fun n0 =>
 KK 289 [a1] H fun v0 H1 f2 => (fun e3 =>
 I.un .not v0 fun v4 =>
 I.cond v4 (
 I.fin n0 H1 e3 [.nils, .nils, (.int .i64 1)] k) (
 I.head n0 387 [(0, a0), (1, a1), (4, .nils), (5, .nils), (6, (.int .i64 0)), (7, .nils), (8, .nils), (9, .bad), (10, .bad), (11, .bad), (12, .bad), (14, .bad), (17, v4), (20, .bad), (38, .bad), (39, .bad), (40, .bad), (41, .bad), (42, .bad), (46, .bad)] H1 e3 fun L5 H6 => loopM I n0 387 (fun L7 H8 e9 k10 =>
 I.len (lookQ L7 1) fun v11 =>
 I.bin .gtr 3 true v11 (.int .i64 0) fun v12 =>
 I.cond v12 (
 I.len (lookQ L7 1) fun v13 =>
 I.blt true .min #[3, 3] n0 [v13, (.int .i64 24)] H8 fun v14 H15 f16 => (fun e17 =>
 I.len (lookQ L7 1) fun v18 =>
 I.bin .lss 3 false v14 v18 fun v19 =>
 I.slice 162 H15 (lookQ L7 1) none (some v14) fun v20 =>
 KK 290 [(lookQ L7 0), v19, v20] H15 fun v21 H22 f23 => (fun e24 =>
 I.ext v21 0 fun v25 =>
 I.ext v21 1 fun v26 =>
 I.ext v21 2 fun v27 =>
 I.bin .neq 33 true v27 (.int .i64 0) fun v28 =>
 I.cond v28 (
 k10 .ret [(0, (lookQ L7 0)), (1, (lookQ L7 1)), (4, .nils), (5, .nils), (6, (.int .i64 1)), (7, (lookQ L7 7)), (8, (lookQ L7 8)), (9, v14), (10, v25), (11, v26), (12, v27), (14, (lookQ L7 14)), (17, (lookQ L7 17)), (20, v12), (38, v28), (39, (lookQ L7 39)), (40, (lookQ L7 40)), (41, (lookQ L7 41)), (42, (lookQ L7 42)), (46, (lookQ L7 46))] H22 e24) (
 I.len v26 fun v29 =>
 I.head n0 3848290699139 [(0, (lookQ L7 0)), (1, (lookQ L7 1)), (4, (lookQ L7 4)), (5, (lookQ L7 5)), (6, (lookQ L7 6)), (7, (lookQ L7 7)), (8, (lookQ L7 8)), (9, v14), (10, v25), (11, v26), (12, v27), (14, (lookQ L7 14)), (17, (lookQ L7 17)), (20, v12), (38, v28), (39, v26), (40, v29), (41, (.int .i64 0)), (42, (lookQ L7 42)), (46, (lookQ L7 46))] H22 e24 fun L30 H31 => loopM I n0 3848290699139 (fun L32 H33 e34 k35 =>
 I.bin .lss 3 false (lookQ L32 41) (lookQ L32 40) fun v36 =>
 I.cond v36 (
 I.ia 28 (lookQ L32 39) (lookQ L32 41) fun v37 =>
 I.load 3 H33 v37 fun v38 =>
 I.join (fun L39 H40 e41 =>
 I.bslice 28 1 [(0, (lookQ L39 14))] H40 fun v42 H43 =>
 I.blt true .append #[28, 28] n0 [(lookQ L39 8), v42] H43 fun v44 H45 f46 => (fun e47 =>
 I.bin .add 3 true (lookQ L39 41) (.int .i64 1) fun v48 =>
 k35 .normal [(0, (lookQ L39 0)), (1, (lookQ L39 1)), (4, (lookQ L39 4)), (5, (lookQ L39 5)), (6, (lookQ L39 6)), (7, (lookQ L39 7)), (8, v44), (9, (lookQ L39 9)), (10, (lookQ L39 10)), (11, (lookQ L39 11)), (12, (lookQ L39 12)), (14, (lookQ L39 14)), (17, (lookQ L39 17)), (20, (lookQ L39 20)), (38, (lookQ L39 38)), (39, (lookQ L39 39)), (40, (lookQ L39 40)), (41, v48), (42, (lookQ L39 42)), (46, (lookQ L39 46))] H45 e47) (escQ f46 e41)) fun j49 =>
 I.bin .geq 3 true v38 (.int .i64 0) fun v50 =>
 I.cond v50 (
 I.len (lookQ L32 7) fun v51 =>
 I.bin .add 3 false v38 v51 fun v52 =>
 j49 [(0, (lookQ L32 0)), (1, (lookQ L32 1)), (4, (lookQ L32 4)), (5, (lookQ L32 5)), (6, (lookQ L32 6)), (7, (lookQ L32 7)), (8, (lookQ L32 8)), (9, (lookQ L32 9)), (10, (lookQ L32 10)), (11, (lookQ L32 11)), (12, (lookQ L32 12)), (14, v52), (17, (lookQ L32 17)), (20, (lookQ L32 20)), (38, (lookQ L32 38)), (39, (lookQ L32 39)), (40, (lookQ L32 40)), (41, (lookQ L32 41)), (42, v36), (46, v50)] H33 e34) (
 j49 [(0, (lookQ L32 0)), (1, (lookQ L32 1)), (4, (lookQ L32 4)), (5, (lookQ L32 5)), (6, (lookQ L32 6)), (7, (lookQ L32 7)), (8, (lookQ L32 8)), (9, (lookQ L32 9)), (10, (lookQ L32 10)), (11, (lookQ L32 11)), (12, (lookQ L32 12)), (14, v38), (17, (lookQ L32 17)), (20, (lookQ L32 20)), (38, (lookQ L32 38)), (39, (lookQ L32 39)), (40, (lookQ L32 40)), (41, (lookQ L32 41)), (42, v36), (46, v50)] H33 e34)) (
 k35 (.exit 2) [(0, (lookQ L32 0)), (1, (lookQ L32 1)), (4, (lookQ L32 4)), (5, (lookQ L32 5)), (6, (lookQ L32 6)), (7, (lookQ L32 7)), (8, (lookQ L32 8)), (9, (lookQ L32 9)), (10, (lookQ L32 10)), (11, (lookQ L32 11)), (12, (lookQ L32 12)), (14, (lookQ L32 14)), (17, (lookQ L32 17)), (20, (lookQ L32 20)), (38, (lookQ L32 38)), (39, (lookQ L32 39)), (40, (lookQ L32 40)), (41, (lookQ L32 41)), (42, v36), (46, (lookQ L32 46))] H33 e34)) fuel L30 H31 e24 (selK I.bot [(2, (fun L53 H54 e55 =>
 I.blt true .append #[141, 141] n0 [(lookQ L53 7), (lookQ L53 10)] H54 fun v56 H57 f58 => (fun e59 =>
 I.slice 162 H57 (lookQ L53 1) (some (lookQ L53 9)) none fun v60 =>
 I.bin .add 22 true (lookQ L53 0) (.int .u32 1) fun v61 =>
 k10 .normal [(0, v61), (1, v60), (4, (lookQ L53 4)), (5, (lookQ L53 5)), (6, (lookQ L53 6)), (7, v56), (8, (lookQ L53 8)), (9, (lookQ L53 9)), (10, (lookQ L53 10)), (11, (lookQ L53 11)), (12, (lookQ L53 12)), (14, (lookQ L53 14)), (17, (lookQ L53 17)), (20, (lookQ L53 20)), (38, (lookQ L53 38)), (39, (lookQ L53 39)), (40, (lookQ L53 40)), (41, (lookQ L53 41)), (42, (lookQ L53 42)), (46, (lookQ L53 46))] H57 e59) (escQ f58 e55)))] (fun _ _ _ => I.bot)))) (escQ f23 e17)) (escQ f16 e9)) (
 k10 (.exit 0) [(0, (lookQ L7 0)), (1, (lookQ L7 1)), (4, (lookQ L7 4)), (5, (lookQ L7 5)), (6, (lookQ L7 6)), (7, (lookQ L7 7)), (8, (lookQ L7 8)), (9, (lookQ L7 9)), (10, (lookQ L7 10)), (11, (lookQ L7 11)), (12, (lookQ L7 12)), (14, (lookQ L7 14)), (17, (lookQ L7 17)), (20, v12), (38, (lookQ L7 38)), (39, (lookQ L7 39)), (40, (lookQ L7 40)), (41, (lookQ L7 41)), (42, (lookQ L7 42)), (46, (lookQ L7 46))] H8 e9)) fuel L5 H6 e3 (selK I.bot [(0, (fun L62 H63 e64 =>
 I.fin n0 H63 e64 [(lookQ L62 7), (lookQ L62 8), (.int .i64 0)] k)), (2, (fun L65 H66 e67 =>
 I.bot))] (fun L68 H69 e70 =>
 I.fin n0 H69 e70 [(lookQ L68 4), (lookQ L68 5), (lookQ L68 6)] k)))) (escQ f2 false)) (lenQ H)
  | _ => I.bot⟩
theorem ok242 (R : Type) : TxtOk Tryz.prog U ann 242 (r242 R) := fun I fuel KO KK args H k => match args with
  | [] => .inl rfl
  | [_] => .inl rfl
  | [a0, a1] => .inr (by kernel_rfl)
  | _ :: _ :: _ :: _ => .inl rfl
/-- silt/block.two -/
noncomputable def r246 (R : Type) : Bx (Txt R) := ⟨fun I fuel KO KK args H k => match args with
  | [a0] => (fun n0 =>
 I.ia 65 a0 (.int .i64 0) fun v0 =>
 I.load 5 H v0 fun v1 =>
 I.conv 5 3 v1 H fun v2 H3 =>
 I.ia 65 a0 (.int .i64 1) fun v4 =>
 I.load 5 H3 v4 fun v5 =>
 I.conv 5 3 v5 H3 fun v6 H7 =>
 I.bin .shl 3 true v6 (.int .u64 8) fun v8 =>
 I.bin .or 3 false v2 v8 fun v9 =>
 I.fin n0 H7 false [v9] k) (lenQ H)
  | _ => I.bot⟩
theorem ok246 (R : Type) : TxtOk Tryz.prog U ann 246 (r246 R) := fun I fuel KO KK args H k => match args with
  | [] => .inl rfl
  | [a0] => .inr (by kernel_rfl)
  | _ :: _ :: _ => .inl rfl
end Go.Proofs.YtkkbnchpedacjaaGreatDoor
