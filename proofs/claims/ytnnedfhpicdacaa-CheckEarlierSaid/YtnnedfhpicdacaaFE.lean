/- The readings of some functions, printed by a program of the session (wip/tools/sx.py): each by one equation that the kernel reckons. -/
import Derived.Test.YtnnedfhpicdacaaRows
import Derived.Test.YtnnedfhpicdacaaFM
set_option linter.unusedVariables false
namespace Go.Proofs.Ytnnedfhpicdacaa
open Go Go.Sx Go.Proofs
/-- futtock/futtocklaw14.ModelErrors -/
def A_law14_ModelErrors : Ann := .seq (.leaf) (.seq (.leaf) (.seq (.seq (.leaf) (.cond [] (.seq (.leaf) (.leaf)) (.leaf))) (.seq (.seq (.leaf) (.block [] (.loop [(23, (.int .i64))] (.seq (.leaf) (.seq (.cond [] (.leaf) (.leaf)) (.seq (.block [] (.seq (.leaf) (.seq (.leaf) (.seq (.leaf) (.seq (.leaf) (.seq (.seq (.leaf) (.cond [] (.seq (.leaf) (.leaf)) (.leaf))) (.seq (.draw [(0, .flt), (1, .flt), (2, .flt), (3, .flt), (4, .flt), (5, .flt), (6, .flt), (7, .flt), (8, .flt), (9, .flt), (10, .flt), (11, .flt), (12, .flt), (13, .flt), (14, .flt), (15, .flt), (16, .eff), (17, .flt), (18, .flt), (19, .flt), (20, .flt), (21, .flt), (22, .eff), (23, .flt), (24, .flt), (25, .flt), (26, .flt), (27, .flt), (29, .flt), (30, .flt), (31, .flt), (28, .eff), (32, .eff), (33, .flt), (34, .flt), (35, .flt), (36, .flt), (37, .flt), (38, .flt), (40, .flt), (41, .flt), (42, .flt), (39, .eff), (43, .eff), (44, .flt), (45, .flt), (46, .flt)]) (.cond [] (.seq (.leaf) (.leaf)) (.leaf))))))))) (.leaf))))))) (.seq (.leaf) (.leaf)))))
def P_law14_ModelErrors (a0a : Option Addr) (a0l : Nat) (a0c : Nat) (h : PH) (Q : Value → PH → Prop) : Prop :=
 Meets Try.prog 11 #[(.int .i64 4), (.int .i64 3), (.int .i64 3)] h fun v11 h_1 =>
 oTup v11 2 fun x11cs =>
 oIx x11cs[0]? fun x11w =>
 oP (some x11w) fun x11_0 =>
 oIx x11cs[1]? fun x11w_1 =>
 oI .i64 (some x11w_1) fun x11_1 =>
 oP (some (.pointer x11_0)) fun x12 =>
 oI .i64 (some (.int .i64 x11_1)) fun x13 =>
 xSc (Option.isNone x12) false (fun J_1 =>
 J_1 (x13 != 0) h_1)
 (fun r19 h_2 =>
 xIte r19 (fun J_2 =>
 Q (.bool false) h_2)
 (fun J_2 =>
 J_2 h_2)
 (fun  (h_3 : PH) =>
 Meets Try.prog 12 #[(.slice a0a a0l a0c)] h_3 fun v21 h_4 =>
 oS (some v21) fun x21a x21l x21c =>
 xBlk (fun J_3 =>
 ∃ n, xLoopN (fun _ _ => False) (fun J_4 =>
 (fun (x23 : Int) (h_5 : PH) =>
 xIte (decide ((x23 : Int) < ((x21l : Nat) : Int))) (fun J_5 =>
 J_5 h_5)
 (fun J_5 =>
 J_3 h_5)
 (fun  (h_6 : PH) =>
 xBlk (fun J_6 =>
 xIdx x21a x21l x23 5 fun x25 =>
 oI .i64 (h_6.cell (x25.add 0)) fun x26_0 =>
 oI .i64 (h_6.cell (x25.add 1)) fun x26_1 =>
 oI .i64 (h_6.cell (x25.add 2)) fun x26_2 =>
 oI .i64 (h_6.cell (x25.add 3)) fun x26_3 =>
 oI .i64 (h_6.cell (x25.add 4)) fun x26_4 =>
 xNew h_6 (.cells #[(.int .i64 0), (.int .i64 0), (.int .i64 0), (.int .i64 0), (.int .i64 0)] 29 (0, 0)) fun b6 h_7 =>
 xSt 5 h_7 (⟨b6, 0, none⟩ : Addr) [(.int .i64 x26_0), (.int .i64 x26_1), (.int .i64 x26_2), (.int .i64 x26_3), (.int .i64 x26_4)] fun h_8 =>
 Meets Try.prog 13 #[(.pointer x12)] h_8 fun v28 h_9 =>
 oP (some v28) fun x28 =>
 oI .i64 (h_9.cell ((⟨b6, 0, none⟩ : Addr).add 0)) fun x30_0 =>
 oI .i64 (h_9.cell ((⟨b6, 0, none⟩ : Addr).add 1)) fun x30_1 =>
 oI .i64 (h_9.cell ((⟨b6, 0, none⟩ : Addr).add 2)) fun x30_2 =>
 oI .i64 (h_9.cell ((⟨b6, 0, none⟩ : Addr).add 3)) fun x30_3 =>
 oI .i64 (h_9.cell ((⟨b6, 0, none⟩ : Addr).add 4)) fun x30_4 =>
 Meets Try.prog 15 #[(.agg #[(.int .i64 x30_0), (.int .i64 x30_1), (.int .i64 x30_2), (.int .i64 x30_3), (.int .i64 x30_4)])] h_9 fun v31 h_10 =>
 oAgg v31 5 fun x31cs =>
 oI .i64 x31cs[0]? fun x31_0 =>
 oI .i64 x31cs[1]? fun x31_1 =>
 oI .i64 x31cs[2]? fun x31_2 =>
 oI .i64 x31cs[3]? fun x31_3 =>
 oI .i64 x31cs[4]? fun x31_4 =>
 Meets Try.prog 14 #[(.pointer x12), (.agg #[(.int .i64 x31_0), (.int .i64 x31_1), (.int .i64 x31_2), (.int .i64 x31_3), (.int .i64 x31_4)])] h_10 fun v32 h_11 =>
 oI .i64 (some v32) fun x32 =>
 oI .i64 (h_11.cell ((⟨b6, 0, none⟩ : Addr).add 4)) fun x34 =>
 xSc (x34 == 9) false (fun J_7 =>
 oI .i64 (h_11.cell ((⟨b6, 0, none⟩ : Addr).add 4)) fun x38 =>
 J_7 (x38 == 10) h_11)
 (fun r40 h_12 =>
 xSc r40 false (fun J_8 =>
 oI .i64 (h_12.cell ((⟨b6, 0, none⟩ : Addr).add 4)) fun x43 =>
 J_8 (x43 == 14) h_12)
 (fun r45 h_13 =>
 xSc r45 false (fun J_9 =>
 oI .i64 (h_13.cell ((⟨b6, 0, none⟩ : Addr).add 4)) fun x48 =>
 J_9 (x48 == 11) h_13)
 (fun r50 h_14 =>
 xSc (x32 != 0) false (fun J_10 =>
 J_10 r50 h_14)
 (fun r55 h_15 =>
 xSc r55 true (fun J_11 =>
 Meets Try.prog 16 #[(.pointer x12), (.pointer x28)] h_15 fun v59 h_16 =>
 oB (some v59) fun x59 =>
 J_11 (!x59) h_16)
 (fun r61 h_17 =>
 xIte r61 (fun J_12 =>
 Q (.bool false) h_17)
 (fun J_12 =>
 J_12 h_17)
 (fun  (h_18 : PH) =>
 xDraw h_18 fun hs_1 =>
 xSc (x32 == 0) true (fun J_13 =>
 oI .i64 (hs_1.cell ((⟨b6, 0, none⟩ : Addr).add 0)) fun x66 =>
 J_13 (x66 == 4) h_18)
 (fun r68 h_19 =>
 xSc r68 true (fun J_14 =>
 oI .i64 (hs_1.cell ((⟨b6, 0, none⟩ : Addr).add 4)) fun x71 =>
 J_14 (x71 == 12) h_19)
 (fun r73 h_20 =>
 xSc r73 true (fun J_15 =>
 oI .i64 (hs_1.cell ((⟨b6, 0, none⟩ : Addr).add 1)) fun x77 =>
 Meets Try.prog 17 #[(.pointer x28), (.int .i64 x77)] h_20 fun v78 h_21 =>
 oB (some v78) fun x78 =>
 PH.le hs_1 h_21 ∧
 xSc (!x78) false (fun J_16 =>
 oI .i64 (hs_1.cell ((⟨b6, 0, none⟩ : Addr).add 1)) fun x83 =>
 Meets Try.prog 17 #[(.pointer x12), (.int .i64 x83)] h_21 fun v84 h_22 =>
 oB (some v84) fun x84 =>
 PH.le hs_1 h_22 ∧
 J_16 x84 h_22)
 (fun r85 h_23 =>
 xSc r85 false (fun J_17 =>
 oI .i64 (hs_1.cell ((⟨b6, 0, none⟩ : Addr).add 2)) fun x89 =>
 oI .i64 (hs_1.cell ((⟨b6, 0, none⟩ : Addr).add 2)) fun x93 =>
 Meets Try.prog 18 #[(.pointer x12), (.int .i64 x89)] h_23 fun v90 h_24 =>
 oI .i64 (some v90) fun x90 =>
 PH.le hs_1 h_24 ∧
 Meets Try.prog 18 #[(.pointer x28), (.int .i64 x93)] h_24 fun v94 h_25 =>
 oI .i64 (some v94) fun x94 =>
 PH.le hs_1 h_25 ∧
 J_17 (x90 != x94) h_25)
 (fun r96 h_26 =>
 xSc r96 false (fun J_18 =>
 oI .i64 (hs_1.cell ((⟨b6, 0, none⟩ : Addr).add 2)) fun x100 =>
 oI .i64 (hs_1.cell ((⟨b6, 0, none⟩ : Addr).add 2)) fun x104 =>
 Meets Try.prog 19 #[(.pointer x12), (.int .i64 x100)] h_26 fun v101 h_27 =>
 oI .i64 (some v101) fun x101 =>
 PH.le hs_1 h_27 ∧
 Meets Try.prog 19 #[(.pointer x28), (.int .i64 x104)] h_27 fun v105 h_28 =>
 oI .i64 (some v105) fun x105 =>
 PH.le hs_1 h_28 ∧
 J_18 (x101 != x105) h_28)
 (fun r107 h_29 =>
 J_15 r107 h_29) h_26) h_23) h_21)
 (fun r108 h_30 =>
 xIte r108 (fun J_19 =>
 Q (.bool false) h_30)
 (fun J_19 =>
 J_19 h_30)
 (fun  (h_31 : PH) =>
 J_6 h_31)) h_20) h_19) h_18)) h_15) h_14) h_13) h_12) h_11)
 (fun  (h_32 : PH) =>
 J_4 (IntKind.wrap .i64 (x23 + 1)) h_32)))) n 0 h_4)
 (fun  (h_33 : PH) =>
 Meets Try.prog 20 #[] h_33 fun v110 h_34 =>
 oB (some v110) fun x110 =>
 Q (.bool x110) h_34))) h_1
theorem P_law14_ModelErrors_eq (a0a : Option Addr) (a0l : Nat) (a0c : Nat) (h : PH) (Q : Value → PH → Prop) : dFn Try.prog Try.f3 A_law14_ModelErrors #[(.slice a0a a0l a0c)] h Q = P_law14_ModelErrors a0a a0l a0c h Q := by kernel_rfl
theorem P_law14_ModelErrors_of {a0a : Option Addr} {a0l : Nat} {a0c : Nat} {h : PH} {Q : Value → PH → Prop} (x : P_law14_ModelErrors a0a a0l a0c h Q) : Meets Try.prog 3 #[(.slice a0a a0l a0c)] h Q :=
  spec_of Try.func3 mix (by kernel_rfl) ((P_law14_ModelErrors_eq a0a a0l a0c h Q).symm ▸ x)
/-- futtock/futtocklaw14.ModelClones -/
def A_law14_ModelClones : Ann := .seq (.leaf) (.seq (.seq (.leaf) (.block [] (.loop [(19, (.int .i64))] (.seq (.leaf) (.seq (.cond [] (.leaf) (.leaf)) (.seq (.block [] (.seq (.leaf) (.seq (.leaf) (.cond [] (.seq (.leaf) (.leaf)) (.leaf))))) (.leaf))))))) (.seq (.leaf) (.seq (.seq (.leaf) (.cond [] (.seq (.leaf) (.leaf)) (.leaf))) (.seq (.seq (.leaf) (.block [] (.loop [(80, (.int .i64))] (.seq (.leaf) (.seq (.cond [] (.leaf) (.leaf)) (.seq (.block [] (.seq (.leaf) (.leaf))) (.leaf))))))) (.seq (.leaf) (.seq (.seq (.leaf) (.cond [] (.seq (.leaf) (.leaf)) (.leaf))) (.seq (.seq (.leaf) (.block [] (.loop [(106, (.int .i64))] (.seq (.leaf) (.seq (.cond [] (.leaf) (.leaf)) (.seq (.block [] (.seq (.leaf) (.seq (.draw [(0, .flt), (1, .flt), (4, .flt), (5, .flt), (2, .eff), (3, .eff), (6, .eff), (7, .eff), (8, .flt), (9, .flt), (10, .flt), (11, .flt), (12, .eff), (13, .flt), (14, .flt)]) (.cond [] (.seq (.leaf) (.leaf)) (.leaf))))) (.leaf))))))) (.seq (.leaf) (.seq (.leaf) (.leaf))))))))))
def P_law14_ModelClones (a0a : Option Addr) (a0l : Nat) (a0c : Nat) (a1a : Option Addr) (a1l : Nat) (a1c : Nat) (h : PH) (Q : Value → PH → Prop) : Prop :=
 xNew h (.cells #[(.int .i64 0), (.slice none 0 0), (.slice none 0 0), (.map none), (.map none)] 45 (0, 0)) fun b16 h_1 =>
 xNew h_1 (.cells #[(.pointer none), (.pointer (some (⟨b16, 0, none⟩ : Addr)))] 23 (0, 0)) fun b17 h_2 =>
 xBlk (fun J_1 =>
 ∃ n, xLoopN (fun _ _ => False) (fun J_2 =>
 (fun (x19 : Int) (h_3 : PH) =>
 xIte (decide ((x19 : Int) < ((2 : Nat) : Int))) (fun J_3 =>
 J_3 h_3)
 (fun J_3 =>
 J_1 h_3)
 (fun  (h_4 : PH) =>
 xBlk (fun J_4 =>
 xIdx (some (⟨b17, 0, none⟩ : Addr)) 2 x19 1 fun x21 =>
 oP (h_4.cell x21) fun x22 =>
 Meets Try.prog 14 #[(.pointer x22), (.agg #[(.int .i64 1), (.int .i64 0), (.int .i64 0), (.int .i64 0), (.int .i64 0)])] h_4 fun v25 h_5 =>
 oI .i64 (some v25) fun x25 =>
 xSc (x25 != 15) false (fun J_5 =>
 Meets Try.prog 18 #[(.pointer x22), (.int .i64 0)] h_5 fun v29 h_6 =>
 oI .i64 (some v29) fun x29 =>
 J_5 (x29 != (-1)) h_6)
 (fun r31 h_7 =>
 xSc r31 false (fun J_6 =>
 Meets Try.prog 19 #[(.pointer x22), (.int .i64 0)] h_7 fun v34 h_8 =>
 oI .i64 (some v34) fun x34 =>
 Meets Try.prog 21 #[(.pointer x22), (.int .i64 0)] h_8 fun v36 h_9 =>
 oI .i64 (some v36) fun x36 =>
 Meets Try.prog 22 #[(.pointer x22), (.int .i64 0)] h_9 fun v39 h_10 =>
 oS (some v39) fun x39a x39l x39c =>
 Meets Try.prog 23 #[(.pointer x22), (.int .i64 0)] h_10 fun v43 h_11 =>
 oS (some v43) fun x43a x43l x43c =>
 J_6 ((IntKind.wrap .i64 ((IntKind.wrap .i64 ((IntKind.wrap .i64 (x34 + x36)) + ((x39l : Nat) : Int))) + ((x43l : Nat) : Int))) != 0) h_11)
 (fun r47 h_12 =>
 xSc r47 false (fun J_7 =>
 Meets Try.prog 17 #[(.pointer x22), (.int .i64 0)] h_12 fun v50 h_13 =>
 oB (some v50) fun x50 =>
 J_7 x50 h_13)
 (fun r51 h_14 =>
 xSc r51 false (fun J_8 =>
 Meets Try.prog 13 #[(.pointer x22)] h_14 fun v54 h_15 =>
 oP (some v54) fun x54 =>
 J_8 (!(Option.isNone x54)) h_15)
 (fun r56 h_16 =>
 xSc r56 false (fun J_9 =>
 Meets Try.prog 16 #[(.pointer x22), (.pointer none)] h_16 fun v59 h_17 =>
 oB (some v59) fun x59 =>
 J_9 (!x59) h_17)
 (fun r61 h_18 =>
 xIte r61 (fun J_10 =>
 Q (.bool false) h_18)
 (fun J_10 =>
 J_10 h_18)
 (fun  (h_19 : PH) =>
 J_4 h_19)) h_16) h_14) h_12) h_7) h_5)
 (fun  (h_20 : PH) =>
 J_2 (IntKind.wrap .i64 (x19 + 1)) h_20)))) n 0 h_2)
 (fun  (h_21 : PH) =>
 Meets Try.prog 11 #[(.int .i64 4), (.int .i64 3), (.int .i64 3)] h_21 fun v64 h_22 =>
 oTup v64 2 fun x64cs =>
 oIx x64cs[0]? fun x64w =>
 oP (some x64w) fun x64_0 =>
 oIx x64cs[1]? fun x64w_1 =>
 oI .i64 (some x64w_1) fun x64_1 =>
 oP (some (.pointer x64_0)) fun x65 =>
 oI .i64 (some (.int .i64 x64_1)) fun x66 =>
 xSc (Option.isNone x65) false (fun J_11 =>
 J_11 (x66 != 0) h_22)
 (fun r72 h_23 =>
 xSc r72 false (fun J_12 =>
 Meets Try.prog 16 #[(.pointer x65), (.pointer none)] h_23 fun v75 h_24 =>
 oB (some v75) fun x75 =>
 J_12 x75 h_24)
 (fun r76 h_25 =>
 xIte r76 (fun J_13 =>
 Q (.bool false) h_25)
 (fun J_13 =>
 J_13 h_25)
 (fun  (h_26 : PH) =>
 Meets Try.prog 12 #[(.slice a0a a0l a0c)] h_26 fun v78 h_27 =>
 oS (some v78) fun x78a x78l x78c =>
 xBlk (fun J_14 =>
 ∃ n_1, xLoopN (fun _ _ => False) (fun J_15 =>
 (fun (x80 : Int) (h_28 : PH) =>
 xIte (decide ((x80 : Int) < ((x78l : Nat) : Int))) (fun J_16 =>
 J_16 h_28)
 (fun J_16 =>
 J_14 h_28)
 (fun  (h_29 : PH) =>
 xBlk (fun J_17 =>
 xIdx x78a x78l x80 5 fun x82 =>
 oI .i64 (h_29.cell (x82.add 0)) fun x83_0 =>
 oI .i64 (h_29.cell (x82.add 1)) fun x83_1 =>
 oI .i64 (h_29.cell (x82.add 2)) fun x83_2 =>
 oI .i64 (h_29.cell (x82.add 3)) fun x83_3 =>
 oI .i64 (h_29.cell (x82.add 4)) fun x83_4 =>
 xNew h_29 (.cells #[(.int .i64 0), (.int .i64 0), (.int .i64 0), (.int .i64 0), (.int .i64 0)] 29 (0, 0)) fun b10 h_30 =>
 xSt 5 h_30 (⟨b10, 0, none⟩ : Addr) [(.int .i64 x83_0), (.int .i64 x83_1), (.int .i64 x83_2), (.int .i64 x83_3), (.int .i64 x83_4)] fun h_31 =>
 oI .i64 (h_31.cell ((⟨b10, 0, none⟩ : Addr).add 0)) fun x85_0 =>
 oI .i64 (h_31.cell ((⟨b10, 0, none⟩ : Addr).add 1)) fun x85_1 =>
 oI .i64 (h_31.cell ((⟨b10, 0, none⟩ : Addr).add 2)) fun x85_2 =>
 oI .i64 (h_31.cell ((⟨b10, 0, none⟩ : Addr).add 3)) fun x85_3 =>
 oI .i64 (h_31.cell ((⟨b10, 0, none⟩ : Addr).add 4)) fun x85_4 =>
 Meets Try.prog 15 #[(.agg #[(.int .i64 x85_0), (.int .i64 x85_1), (.int .i64 x85_2), (.int .i64 x85_3), (.int .i64 x85_4)])] h_31 fun v86 h_32 =>
 oAgg v86 5 fun x86cs =>
 oI .i64 x86cs[0]? fun x86_0 =>
 oI .i64 x86cs[1]? fun x86_1 =>
 oI .i64 x86cs[2]? fun x86_2 =>
 oI .i64 x86cs[3]? fun x86_3 =>
 oI .i64 x86cs[4]? fun x86_4 =>
 Meets Try.prog 14 #[(.pointer x65), (.agg #[(.int .i64 x86_0), (.int .i64 x86_1), (.int .i64 x86_2), (.int .i64 x86_3), (.int .i64 x86_4)])] h_32 fun v87 h_33 =>
 oI .i64 (some v87) fun x87 =>
 J_17 h_33)
 (fun  (h_34 : PH) =>
 J_15 (IntKind.wrap .i64 (x80 + 1)) h_34)))) n_1 0 h_27)
 (fun  (h_35 : PH) =>
 Meets Try.prog 13 #[(.pointer x65)] h_35 fun v90 h_36 =>
 oP (some v90) fun x90 =>
 Meets Try.prog 13 #[(.pointer x65)] h_36 fun v92 h_37 =>
 oP (some v92) fun x92 =>
 Meets Try.prog 16 #[(.pointer x90), (.pointer x65)] h_37 fun v95 h_38 =>
 oB (some v95) fun x95 =>
 xSc (!x95) false (fun J_18 =>
 Meets Try.prog 16 #[(.pointer x65), (.pointer x92)] h_38 fun v100 h_39 =>
 oB (some v100) fun x100 =>
 J_18 (!x100) h_39)
 (fun r102 h_40 =>
 xIte r102 (fun J_19 =>
 Q (.bool false) h_40)
 (fun J_19 =>
 J_19 h_40)
 (fun  (h_41 : PH) =>
 Meets Try.prog 12 #[(.slice a1a a1l a1c)] h_41 fun v104 h_42 =>
 oS (some v104) fun x104a x104l x104c =>
 xBlk (fun J_20 =>
 ∃ n_2, xLoopN (fun _ _ => False) (fun J_21 =>
 (fun (x106 : Int) (h_43 : PH) =>
 xIte (decide ((x106 : Int) < ((x104l : Nat) : Int))) (fun J_22 =>
 J_22 h_43)
 (fun J_22 =>
 J_20 h_43)
 (fun  (h_44 : PH) =>
 xBlk (fun J_23 =>
 xIdx x104a x104l x106 5 fun x108 =>
 oI .i64 (h_44.cell (x108.add 0)) fun x109_0 =>
 oI .i64 (h_44.cell (x108.add 1)) fun x109_1 =>
 oI .i64 (h_44.cell (x108.add 2)) fun x109_2 =>
 oI .i64 (h_44.cell (x108.add 3)) fun x109_3 =>
 oI .i64 (h_44.cell (x108.add 4)) fun x109_4 =>
 xNew h_44 (.cells #[(.int .i64 0), (.int .i64 0), (.int .i64 0), (.int .i64 0), (.int .i64 0)] 29 (0, 0)) fun b14 h_45 =>
 xSt 5 h_45 (⟨b14, 0, none⟩ : Addr) [(.int .i64 x109_0), (.int .i64 x109_1), (.int .i64 x109_2), (.int .i64 x109_3), (.int .i64 x109_4)] fun h_46 =>
 xDraw h_46 fun hs_1 =>
 oI .i64 (hs_1.cell ((⟨b14, 0, none⟩ : Addr).add 0)) fun x111_0 =>
 oI .i64 (hs_1.cell ((⟨b14, 0, none⟩ : Addr).add 1)) fun x111_1 =>
 oI .i64 (hs_1.cell ((⟨b14, 0, none⟩ : Addr).add 2)) fun x111_2 =>
 oI .i64 (hs_1.cell ((⟨b14, 0, none⟩ : Addr).add 3)) fun x111_3 =>
 oI .i64 (hs_1.cell ((⟨b14, 0, none⟩ : Addr).add 4)) fun x111_4 =>
 oI .i64 (hs_1.cell ((⟨b14, 0, none⟩ : Addr).add 0)) fun x115_0 =>
 oI .i64 (hs_1.cell ((⟨b14, 0, none⟩ : Addr).add 1)) fun x115_1 =>
 oI .i64 (hs_1.cell ((⟨b14, 0, none⟩ : Addr).add 2)) fun x115_2 =>
 oI .i64 (hs_1.cell ((⟨b14, 0, none⟩ : Addr).add 3)) fun x115_3 =>
 oI .i64 (hs_1.cell ((⟨b14, 0, none⟩ : Addr).add 4)) fun x115_4 =>
 Meets Try.prog 15 #[(.agg #[(.int .i64 x111_0), (.int .i64 x111_1), (.int .i64 x111_2), (.int .i64 x111_3), (.int .i64 x111_4)])] h_46 fun v112 h_47 =>
 oAgg v112 5 fun x112cs =>
 oI .i64 x112cs[0]? fun x112_0 =>
 oI .i64 x112cs[1]? fun x112_1 =>
 oI .i64 x112cs[2]? fun x112_2 =>
 oI .i64 x112cs[3]? fun x112_3 =>
 oI .i64 x112cs[4]? fun x112_4 =>
 PH.le hs_1 h_47 ∧
 Meets Try.prog 14 #[(.pointer x90), (.agg #[(.int .i64 x112_0), (.int .i64 x112_1), (.int .i64 x112_2), (.int .i64 x112_3), (.int .i64 x112_4)])] h_47 fun v113 h_48 =>
 oI .i64 (some v113) fun x113 =>
 PH.le hs_1 h_48 ∧
 Meets Try.prog 15 #[(.agg #[(.int .i64 x115_0), (.int .i64 x115_1), (.int .i64 x115_2), (.int .i64 x115_3), (.int .i64 x115_4)])] h_48 fun v116 h_49 =>
 oAgg v116 5 fun x116cs =>
 oI .i64 x116cs[0]? fun x116_0 =>
 oI .i64 x116cs[1]? fun x116_1 =>
 oI .i64 x116cs[2]? fun x116_2 =>
 oI .i64 x116cs[3]? fun x116_3 =>
 oI .i64 x116cs[4]? fun x116_4 =>
 PH.le hs_1 h_49 ∧
 Meets Try.prog 14 #[(.pointer x92), (.agg #[(.int .i64 x116_0), (.int .i64 x116_1), (.int .i64 x116_2), (.int .i64 x116_3), (.int .i64 x116_4)])] h_49 fun v117 h_50 =>
 oI .i64 (some v117) fun x117 =>
 PH.le hs_1 h_50 ∧
 xSc (x113 != x117) false (fun J_24 =>
 Meets Try.prog 16 #[(.pointer x90), (.pointer x92)] h_50 fun v122 h_51 =>
 oB (some v122) fun x122 =>
 PH.le hs_1 h_51 ∧
 J_24 (!x122) h_51)
 (fun r124 h_52 =>
 xIte r124 (fun J_25 =>
 Q (.bool false) h_52)
 (fun J_25 =>
 J_25 h_52)
 (fun  (h_53 : PH) =>
 J_23 h_53)) h_50)
 (fun  (h_54 : PH) =>
 J_21 (IntKind.wrap .i64 (x106 + 1)) h_54)))) n_2 0 h_42)
 (fun  (h_55 : PH) =>
 Meets Try.prog 14 #[(.pointer x90), (.agg #[(.int .i64 12), (.int .i64 0), (.int .i64 0), (.int .i64 1), (.int .i64 0)])] h_55 fun v128 h_56 =>
 oI .i64 (some v128) fun x128 =>
 Meets Try.prog 13 #[(.pointer x65)] h_56 fun v131 h_57 =>
 oP (some v131) fun x131 =>
 Meets Try.prog 16 #[(.pointer x65), (.pointer x131)] h_57 fun v132 h_58 =>
 oB (some v132) fun x132 =>
 xSc x132 true (fun J_26 =>
 Meets Try.prog 20 #[] h_58 fun v134 h_59 =>
 oB (some v134) fun x134 =>
 J_26 x134 h_59)
 (fun r135 h_60 =>
 Q (.bool r135) h_60) h_58))) h_38))) h_23) h_22)
theorem P_law14_ModelClones_eq (a0a : Option Addr) (a0l : Nat) (a0c : Nat) (a1a : Option Addr) (a1l : Nat) (a1c : Nat) (h : PH) (Q : Value → PH → Prop) : dFn Try.prog Try.f4 A_law14_ModelClones #[(.slice a0a a0l a0c), (.slice a1a a1l a1c)] h Q = P_law14_ModelClones a0a a0l a0c a1a a1l a1c h Q := by kernel_rfl
theorem P_law14_ModelClones_of {a0a : Option Addr} {a0l : Nat} {a0c : Nat} {a1a : Option Addr} {a1l : Nat} {a1c : Nat} {h : PH} {Q : Value → PH → Prop} (x : P_law14_ModelClones a0a a0l a0c a1a a1l a1c h Q) : Meets Try.prog 4 #[(.slice a0a a0l a0c), (.slice a1a a1l a1c)] h Q :=
  spec_of Try.func4 mix (by kernel_rfl) ((P_law14_ModelClones_eq a0a a0l a0c a1a a1l a1c h Q).symm ▸ x)
/-- futtock/futtocklaw14.short -/
def A_law14_short : Ann := .seq (.leaf) (.seq (.leaf) (.leaf))
def P_law14_short (a0a : Option Addr) (a0l : Nat) (a0c : Nat) (h : PH) (Q : Value → PH → Prop) : Prop :=
 xSlice a0a a0l a0c 5 none (some (if 200 < ((a0l : Nat) : Int) then 200 else ((a0l : Nat) : Int))) fun x7a x7l x7c =>
 Q (.slice x7a x7l x7c) h
theorem P_law14_short_eq (a0a : Option Addr) (a0l : Nat) (a0c : Nat) (h : PH) (Q : Value → PH → Prop) : dFn Try.prog Try.f12 A_law14_short #[(.slice a0a a0l a0c)] h Q = P_law14_short a0a a0l a0c h Q := by kernel_rfl
theorem P_law14_short_of {a0a : Option Addr} {a0l : Nat} {a0c : Nat} {h : PH} {Q : Value → PH → Prop} (x : P_law14_short a0a a0l a0c h Q) : Meets Try.prog 12 #[(.slice a0a a0l a0c)] h Q :=
  spec_of Try.func12 mix (by kernel_rfl) ((P_law14_short_eq a0a a0l a0c h Q).symm ▸ x)
/-- futtock/futtocklaw14.theirs -/
def A_law14_theirs : Ann := .seq (.leaf) (.seq (.leaf) (.leaf))
def P_law14_theirs (a0_0 : Int) (a0_1 : Int) (a0_2 : Int) (a0_3 : Int) (a0_4 : Int) (h : PH) (Q : Value → PH → Prop) : Prop :=
 xNew h (.cells #[(.int .i64 a0_0), (.int .i64 a0_1), (.int .i64 a0_2), (.int .i64 a0_3), (.int .i64 a0_4)] 29 (0, 0)) fun b1 h_1 =>
 xNew h_1 (.cells #[(.int .i64 0), (.int .i64 0), (.int .i64 0), (.int .i64 0), (.int .i64 0)] 33 (0, 0)) fun b2 h_2 =>
 oI .i64 (h_2.cell ((⟨b1, 0, none⟩ : Addr).add 0)) fun x4 =>
 oI .i64 (h_2.cell ((⟨b1, 0, none⟩ : Addr).add 1)) fun x6 =>
 oI .i64 (h_2.cell ((⟨b1, 0, none⟩ : Addr).add 2)) fun x8 =>
 oI .i64 (h_2.cell ((⟨b1, 0, none⟩ : Addr).add 3)) fun x10 =>
 oI .i64 (h_2.cell ((⟨b1, 0, none⟩ : Addr).add 4)) fun x12 =>
 xSt 5 h_2 (⟨b2, 0, none⟩ : Addr) [(.int .i64 x4), (.int .i64 x6), (.int .i64 x8), (.int .i64 x10), (.int .i64 x12)] fun h_3 =>
 oI .i64 (h_3.cell ((⟨b2, 0, none⟩ : Addr).add 0)) fun y2_0 =>
 oI .i64 (h_3.cell ((⟨b2, 0, none⟩ : Addr).add 1)) fun y2_1 =>
 oI .i64 (h_3.cell ((⟨b2, 0, none⟩ : Addr).add 2)) fun y2_2 =>
 oI .i64 (h_3.cell ((⟨b2, 0, none⟩ : Addr).add 3)) fun y2_3 =>
 oI .i64 (h_3.cell ((⟨b2, 0, none⟩ : Addr).add 4)) fun y2_4 =>
 Q (.agg #[(.int .i64 y2_0), (.int .i64 y2_1), (.int .i64 y2_2), (.int .i64 y2_3), (.int .i64 y2_4)]) h_3
theorem P_law14_theirs_eq (a0_0 : Int) (a0_1 : Int) (a0_2 : Int) (a0_3 : Int) (a0_4 : Int) (h : PH) (Q : Value → PH → Prop) : dFn Try.prog Try.f15 A_law14_theirs #[(.agg #[(.int .i64 a0_0), (.int .i64 a0_1), (.int .i64 a0_2), (.int .i64 a0_3), (.int .i64 a0_4)])] h Q = P_law14_theirs a0_0 a0_1 a0_2 a0_3 a0_4 h Q := by kernel_rfl
theorem P_law14_theirs_of {a0_0 : Int} {a0_1 : Int} {a0_2 : Int} {a0_3 : Int} {a0_4 : Int} {h : PH} {Q : Value → PH → Prop} (x : P_law14_theirs a0_0 a0_1 a0_2 a0_3 a0_4 h Q) : Meets Try.prog 15 #[(.agg #[(.int .i64 a0_0), (.int .i64 a0_1), (.int .i64 a0_2), (.int .i64 a0_3), (.int .i64 a0_4)])] h Q :=
  spec_of Try.func15 mix (by kernel_rfl) ((P_law14_theirs_eq a0_0 a0_1 a0_2 a0_3 a0_4 h Q).symm ▸ x)
/-- futtock/futtocklaw14.alive -/
def A_law14_alive : Ann := .seq (.leaf) (.seq (.leaf) (.seq (.seq (.leaf) (.cond [] (.seq (.leaf) (.leaf)) (.leaf))) (.seq (.leaf) (.leaf))))
def P_law14_alive  (h : PH) (Q : Value → PH → Prop) : Prop :=
 Meets Try.prog 11 #[(.int .i64 2), (.int .i64 1), (.int .i64 3)] h fun v4 h_1 =>
 oTup v4 2 fun x4cs =>
 oIx x4cs[0]? fun x4w =>
 oP (some x4w) fun x4_0 =>
 oIx x4cs[1]? fun x4w_1 =>
 oI .i64 (some x4w_1) fun x4_1 =>
 oP (some (.pointer x4_0)) fun x5 =>
 oI .i64 (some (.int .i64 x4_1)) fun x6 =>
 xSc (Option.isNone x5) false (fun J_1 =>
 J_1 (x6 != 0) h_1)
 (fun r12 h_2 =>
 xSc r12 false (fun J_2 =>
 Meets Try.prog 14 #[(.pointer x5), (.agg #[(.int .i64 1), (.int .i64 0), (.int .i64 0), (.int .i64 0), (.int .i64 0)])] h_2 fun v16 h_3 =>
 oI .i64 (some v16) fun x16 =>
 J_2 (x16 != 0) h_3)
 (fun r18 h_4 =>
 xSc r18 false (fun J_3 =>
 Meets Try.prog 18 #[(.pointer x5), (.int .i64 0)] h_4 fun v21 h_5 =>
 oI .i64 (some v21) fun x21 =>
 J_3 (x21 != 0) h_5)
 (fun r23 h_6 =>
 xSc r23 false (fun J_4 =>
 Meets Try.prog 19 #[(.pointer x5), (.int .i64 0)] h_6 fun v26 h_7 =>
 oI .i64 (some v26) fun x26 =>
 J_4 (x26 != 1) h_7)
 (fun r28 h_8 =>
 xIte r28 (fun J_5 =>
 Q (.bool false) h_8)
 (fun J_5 =>
 J_5 h_8)
 (fun  (h_9 : PH) =>
 Meets Try.prog 14 #[(.pointer x5), (.agg #[(.int .i64 1), (.int .i64 1), (.int .i64 0), (.int .i64 0), (.int .i64 0)])] h_9 fun v31 h_10 =>
 oI .i64 (some v31) fun x31 =>
 xSc (x31 == 15) true (fun J_6 =>
 Meets Try.prog 14 #[(.pointer x5), (.agg #[(.int .i64 3), (.int .i64 0), (.int .i64 0), (.int .i64 0), (.int .i64 0)])] h_10 fun v36 h_11 =>
 oI .i64 (some v36) fun x36 =>
 J_6 (x36 == 0) h_11)
 (fun r38 h_12 =>
 xSc r38 true (fun J_7 =>
 Meets Try.prog 18 #[(.pointer x5), (.int .i64 0)] h_12 fun v41 h_13 =>
 oI .i64 (some v41) fun x41 =>
 J_7 (x41 == (-1)) h_13)
 (fun r43 h_14 =>
 Q (.bool r43) h_14) h_12) h_10)) h_6) h_4) h_2) h_1
theorem P_law14_alive_eq  (h : PH) (Q : Value → PH → Prop) : dFn Try.prog Try.f20 A_law14_alive #[] h Q = P_law14_alive  h Q := by kernel_rfl
theorem P_law14_alive_of  {h : PH} {Q : Value → PH → Prop} (x : P_law14_alive  h Q) : Meets Try.prog 20 #[] h Q :=
  spec_of Try.func20 mix (by kernel_rfl) ((P_law14_alive_eq  h Q).symm ▸ x)
end Go.Proofs.Ytnnedfhpicdacaa
