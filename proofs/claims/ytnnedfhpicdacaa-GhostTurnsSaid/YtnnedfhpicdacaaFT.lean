/- The readings of some functions, printed by a program of the session (wip/tools/sx.py): each by one equation that the kernel reckons. -/
import Derived.Test.YtnnedfhpicdacaaRows
import Derived.Test.YtnnedfhpicdacaaFM
set_option linter.unusedVariables false
namespace Go.Proofs.Ytnnedfhpicdacaa
open Go Go.Sx Go.Proofs
/-- futtock/futtocklaw15.GhostTurns -/
def A_law15_GhostTurns : Ann := .seq (.leaf) (.seq (.leaf) (.seq (.seq (.leaf) (.cond [] (.seq (.leaf) (.leaf)) (.leaf))) (.seq (.seq (.leaf) (.block [] (.loop [(26, (.int .i64))] (.seq (.leaf) (.seq (.cond [] (.leaf) (.leaf)) (.seq (.block [] (.seq (.leaf) (.leaf))) (.leaf))))))) (.seq (.leaf) (.seq (.leaf) (.seq (.seq (.leaf) (.block [] (.loop [(38, (.int .i64))] (.seq (.leaf) (.seq (.cond [] (.leaf) (.leaf)) (.seq (.block [] (.seq (.leaf) (.seq (.leaf) (.seq (.seq (.leaf) (.cond [] (.seq (.leaf) (.leaf)) (.leaf))) (.seq (.leaf) (.block [] (.seq (.leaf) (.cond [] (.seq (.seq (.draw [(0, .flt), (1, .flt), (2, .flt), (3, .flt), (4, .flt), (5, .flt), (6, .flt), (7, .flt), (8, .flt), (9, .flt), (10, .flt)]) (.cond [] (.seq (.leaf) (.leaf)) (.leaf))) (.seq (.leaf) (.leaf))) (.seq (.leaf) (.cond [] (.seq (.seq (.leaf) (.cond [] (.seq (.leaf) (.leaf)) (.leaf))) (.leaf)) (.seq (.seq (.draw [(0, .flt), (1, .flt), (2, .flt), (3, .flt), (4, .flt), (5, .flt), (6, .flt), (7, .flt), (8, .flt), (9, .flt), (10, .flt), (11, .flt), (12, .flt), (13, .flt), (14, .flt), (15, .flt), (16, .flt), (17, .flt), (18, .flt)]) (.cond [] (.seq (.leaf) (.leaf)) (.leaf))) (.leaf)))))))))))) (.leaf))))))) (.seq (.leaf) (.leaf))))))))
def P_law15_GhostTurns (a0a : Option Addr) (a0l : Nat) (a0c : Nat) (h : PH) (Q : Value → PH → Prop) : Prop :=
 Meets Try.prog 39 #[(.int .i64 4), (.int .i64 2), (.int .i64 3)] h fun v14 h_1 =>
 oTup v14 2 fun x14cs =>
 oIx x14cs[0]? fun x14w =>
 oP (some x14w) fun x14_0 =>
 oIx x14cs[1]? fun x14w_1 =>
 oI .i64 (some x14w_1) fun x14_1 =>
 oP (some (.pointer x14_0)) fun x15 =>
 oI .i64 (some (.int .i64 x14_1)) fun x16 =>
 xSc (Option.isNone x15) false (fun J_1 =>
 J_1 (x16 != 0) h_1)
 (fun r22 h_2 =>
 xIte r22 (fun J_2 =>
 Q (.bool false) h_2)
 (fun J_2 =>
 J_2 h_2)
 (fun  (h_3 : PH) =>
 Meets Try.prog 34 #[(.slice a0a a0l a0c)] h_3 fun v24 h_4 =>
 oS (some v24) fun x24a x24l x24c =>
 xBlk (fun J_3 =>
 ∃ n, xLoopN (fun _ _ => False) (fun J_4 =>
 (fun (x26 : Int) (h_5 : PH) =>
 xIte (decide ((x26 : Int) < ((x24l : Nat) : Int))) (fun J_5 =>
 J_5 h_5)
 (fun J_5 =>
 J_3 h_5)
 (fun  (h_6 : PH) =>
 xBlk (fun J_6 =>
 xIdx x24a x24l x26 13 fun x28 =>
 oI .i64 (h_6.cell (x28.add 0)) fun x29_0 =>
 oI .i64 (h_6.cell (x28.add 1)) fun x29_1 =>
 oI .i64 (h_6.cell (x28.add 2)) fun x29_2 =>
 oI .i64 (h_6.cell (x28.add 3)) fun x29_3 =>
 oI .i64 (h_6.cell (x28.add 4)) fun x29_4 =>
 oI .i64 (h_6.cell (x28.add 5)) fun x29_5 =>
 oI .i64 (h_6.cell (x28.add 6)) fun x29_6 =>
 oI .i64 (h_6.cell (x28.add 7)) fun x29_7 =>
 oI .i64 (h_6.cell (x28.add 8)) fun x29_8 =>
 oI .i64 (h_6.cell (x28.add 9)) fun x29_9 =>
 oI .i64 (h_6.cell (x28.add 10)) fun x29_10 =>
 oI .i64 (h_6.cell (x28.add 11)) fun x29_11 =>
 oI .i64 (h_6.cell (x28.add 12)) fun x29_12 =>
 xNew h_6 (.cells #[(.int .i64 0), (.int .i64 0), (.int .i64 0), (.int .i64 0), (.int .i64 0), (.int .i64 0), (.int .i64 0), (.int .i64 0), (.int .i64 0), (.int .i64 0), (.int .i64 0), (.int .i64 0), (.int .i64 0)] 88 (0, 0)) fun b6 h_7 =>
 xSt 13 h_7 (⟨b6, 0, none⟩ : Addr) [(.int .i64 x29_0), (.int .i64 x29_1), (.int .i64 x29_2), (.int .i64 x29_3), (.int .i64 x29_4), (.int .i64 x29_5), (.int .i64 x29_6), (.int .i64 x29_7), (.int .i64 x29_8), (.int .i64 x29_9), (.int .i64 x29_10), (.int .i64 x29_11), (.int .i64 x29_12)] fun h_8 =>
 oI .i64 (h_8.cell ((⟨b6, 0, none⟩ : Addr).add 0)) fun x31_0 =>
 oI .i64 (h_8.cell ((⟨b6, 0, none⟩ : Addr).add 1)) fun x31_1 =>
 oI .i64 (h_8.cell ((⟨b6, 0, none⟩ : Addr).add 2)) fun x31_2 =>
 oI .i64 (h_8.cell ((⟨b6, 0, none⟩ : Addr).add 3)) fun x31_3 =>
 oI .i64 (h_8.cell ((⟨b6, 0, none⟩ : Addr).add 4)) fun x31_4 =>
 oI .i64 (h_8.cell ((⟨b6, 0, none⟩ : Addr).add 5)) fun x31_5 =>
 oI .i64 (h_8.cell ((⟨b6, 0, none⟩ : Addr).add 6)) fun x31_6 =>
 oI .i64 (h_8.cell ((⟨b6, 0, none⟩ : Addr).add 7)) fun x31_7 =>
 oI .i64 (h_8.cell ((⟨b6, 0, none⟩ : Addr).add 8)) fun x31_8 =>
 oI .i64 (h_8.cell ((⟨b6, 0, none⟩ : Addr).add 9)) fun x31_9 =>
 oI .i64 (h_8.cell ((⟨b6, 0, none⟩ : Addr).add 10)) fun x31_10 =>
 oI .i64 (h_8.cell ((⟨b6, 0, none⟩ : Addr).add 11)) fun x31_11 =>
 oI .i64 (h_8.cell ((⟨b6, 0, none⟩ : Addr).add 12)) fun x31_12 =>
 Meets Try.prog 35 #[(.agg #[(.int .i64 x31_0), (.int .i64 x31_1), (.int .i64 x31_2), (.int .i64 x31_3), (.int .i64 x31_4), (.int .i64 x31_5), (.int .i64 x31_6), (.int .i64 x31_7), (.int .i64 x31_8), (.int .i64 x31_9), (.int .i64 x31_10), (.int .i64 x31_11), (.int .i64 x31_12)])] h_8 fun v32 h_9 =>
 oAgg v32 13 fun x32cs =>
 oI .i64 x32cs[0]? fun x32_0 =>
 oI .i64 x32cs[1]? fun x32_1 =>
 oI .i64 x32cs[2]? fun x32_2 =>
 oI .i64 x32cs[3]? fun x32_3 =>
 oI .i64 x32cs[4]? fun x32_4 =>
 oI .i64 x32cs[5]? fun x32_5 =>
 oI .i64 x32cs[6]? fun x32_6 =>
 oI .i64 x32cs[7]? fun x32_7 =>
 oI .i64 x32cs[8]? fun x32_8 =>
 oI .i64 x32cs[9]? fun x32_9 =>
 oI .i64 x32cs[10]? fun x32_10 =>
 oI .i64 x32cs[11]? fun x32_11 =>
 oI .i64 x32cs[12]? fun x32_12 =>
 Meets Try.prog 40 #[(.pointer x15), (.agg #[(.int .i64 x32_0), (.int .i64 x32_1), (.int .i64 x32_2), (.int .i64 x32_3), (.int .i64 x32_4), (.int .i64 x32_5), (.int .i64 x32_6), (.int .i64 x32_7), (.int .i64 x32_8), (.int .i64 x32_9), (.int .i64 x32_10), (.int .i64 x32_11), (.int .i64 x32_12)])] h_9 fun v33 h_10 =>
 oI .i64 (some v33) fun x33 =>
 J_6 h_10)
 (fun  (h_11 : PH) =>
 J_4 (IntKind.wrap .i64 (x26 + 1)) h_11)))) n 0 h_4)
 (fun  (h_12 : PH) =>
 xNew h_12 (.cells #[(.bool false), (.bool false), (.bool false), (.bool false)] 103 (0, 0)) fun b7 h_13 =>
 xNew h_13 (.cells #[(.int .i64 0), (.int .i64 0), (.int .i64 0), (.int .i64 0)] 104 (0, 0)) fun b8 h_14 =>
 xNew h_14 (.cells #[(.int .i64 0), (.int .i64 0), (.int .i64 0), (.int .i64 0)] 104 (0, 0)) fun b9 h_15 =>
 Meets Try.prog 41 #[(.pointer x15)] h_15 fun v36 h_16 =>
 oS (some v36) fun x36a x36l x36c =>
 xBlk (fun J_7 =>
 ∃ n_1, xLoopN (fun _ _ => False) (fun J_8 =>
 (fun (x38 : Int) (h_17 : PH) =>
 xIte (decide ((x38 : Int) < ((x36l : Nat) : Int))) (fun J_9 =>
 J_9 h_17)
 (fun J_9 =>
 J_7 h_17)
 (fun  (h_18 : PH) =>
 xBlk (fun J_10 =>
 xIdx x36a x36l x38 13 fun x40 =>
 oI .i64 (h_18.cell (x40.add 0)) fun x41_0 =>
 oI .i64 (h_18.cell (x40.add 1)) fun x41_1 =>
 oI .i64 (h_18.cell (x40.add 2)) fun x41_2 =>
 oI .i64 (h_18.cell (x40.add 3)) fun x41_3 =>
 oI .i64 (h_18.cell (x40.add 4)) fun x41_4 =>
 oI .i64 (h_18.cell (x40.add 5)) fun x41_5 =>
 oI .i64 (h_18.cell (x40.add 6)) fun x41_6 =>
 oI .i64 (h_18.cell (x40.add 7)) fun x41_7 =>
 oI .i64 (h_18.cell (x40.add 8)) fun x41_8 =>
 oI .i64 (h_18.cell (x40.add 9)) fun x41_9 =>
 oI .i64 (h_18.cell (x40.add 10)) fun x41_10 =>
 oI .i64 (h_18.cell (x40.add 11)) fun x41_11 =>
 oI .i64 (h_18.cell (x40.add 12)) fun x41_12 =>
 xNew h_18 (.cells #[(.int .i64 0), (.int .i64 0), (.int .i64 0), (.int .i64 0), (.int .i64 0), (.int .i64 0), (.int .i64 0), (.int .i64 0), (.int .i64 0), (.int .i64 0), (.int .i64 0), (.int .i64 0), (.int .i64 0)] 90 (0, 0)) fun b11 h_19 =>
 xSt 13 h_19 (⟨b11, 0, none⟩ : Addr) [(.int .i64 x41_0), (.int .i64 x41_1), (.int .i64 x41_2), (.int .i64 x41_3), (.int .i64 x41_4), (.int .i64 x41_5), (.int .i64 x41_6), (.int .i64 x41_7), (.int .i64 x41_8), (.int .i64 x41_9), (.int .i64 x41_10), (.int .i64 x41_11), (.int .i64 x41_12)] fun h_20 =>
 oI .i64 (h_20.cell ((⟨b11, 0, none⟩ : Addr).add 1)) fun x43 =>
 xSc (decide ((x43 : Int) < 0)) false (fun J_11 =>
 J_11 (decide ((x43 : Int) > 3)) h_20)
 (fun r49 h_21 =>
 xIte r49 (fun J_12 =>
 Q (.bool false) h_21)
 (fun J_12 =>
 J_12 h_21)
 (fun  (h_22 : PH) =>
 oI .i64 (h_22.cell ((⟨b11, 0, none⟩ : Addr).add 0)) fun x51 =>
 xBlk (fun J_13 =>
 xIte (x51 == 1) (fun J_14 =>
 xDraw h_22 fun hs_1 =>
 xIdxA (⟨b7, 0, none⟩ : Addr) 4 x43 1 fun x76 =>
 oB (hs_1.cell x76) fun x77 =>
 xSc x77 false (fun J_15 =>
 oI .i64 (hs_1.cell ((⟨b11, 0, none⟩ : Addr).add 2)) fun x80 =>
 xIdxA (⟨b8, 0, none⟩ : Addr) 4 x43 1 fun x82 =>
 oI .i64 (hs_1.cell x82) fun x83 =>
 J_15 (x80 != x83) h_22)
 (fun r85 h_23 =>
 xIte r85 (fun J_16 =>
 Q (.bool false) h_23)
 (fun J_16 =>
 J_16 h_23)
 (fun  (h_24 : PH) =>
 xIdxA (⟨b7, 0, none⟩ : Addr) 4 x43 1 fun x88 =>
 xSt 1 h_24 x88 [(.bool true)] fun h_25 =>
 xIdxA (⟨b9, 0, none⟩ : Addr) 4 x43 1 fun x89 =>
 xSt 1 h_25 x89 [(.int .i64 0)] fun h_26 =>
 xIdxA (⟨b8, 0, none⟩ : Addr) 4 x43 1 fun x91 =>
 oI .i64 (h_26.cell x91) fun x92 =>
 xIdxA (⟨b8, 0, none⟩ : Addr) 4 x43 1 fun x94 =>
 xSt 1 h_26 x94 [(.int .i64 (IntKind.wrap .i64 (x92 + 1)))] fun h_27 =>
 J_14 h_27)) h_22)
 (fun J_14 =>
 xIte (x51 == 2) (fun J_17 =>
 xIdxA (⟨b7, 0, none⟩ : Addr) 4 x43 1 fun x98 =>
 oB (h_22.cell x98) fun x99 =>
 xIte (!x99) (fun J_18 =>
 Q (.bool false) h_22)
 (fun J_18 =>
 J_18 h_22)
 (fun  (h_28 : PH) =>
 xIdxA (⟨b9, 0, none⟩ : Addr) 4 x43 1 fun x102 =>
 oI .i64 (h_28.cell x102) fun x103 =>
 xIdxA (⟨b9, 0, none⟩ : Addr) 4 x43 1 fun x105 =>
 xSt 1 h_28 x105 [(.int .i64 (IntKind.wrap .i64 (x103 + 1)))] fun h_29 =>
 J_17 h_29))
 (fun J_17 =>
 xDraw h_22 fun hs_2 =>
 xIdxA (⟨b7, 0, none⟩ : Addr) 4 x43 1 fun x53 =>
 oB (hs_2.cell x53) fun x54 =>
 xSc (!x54) false (fun J_19 =>
 xIdxA (⟨b9, 0, none⟩ : Addr) 4 x43 1 fun x58 =>
 oI .i64 (hs_2.cell x58) fun x59 =>
 J_19 (x59 == 0) h_22)
 (fun r61 h_30 =>
 xSc r61 false (fun J_20 =>
 oI .i64 (hs_2.cell ((⟨b11, 0, none⟩ : Addr).add 2)) fun x64 =>
 xIdxA (⟨b8, 0, none⟩ : Addr) 4 x43 1 fun x66 =>
 oI .i64 (hs_2.cell x66) fun x67 =>
 J_20 (x64 != (IntKind.wrap .i64 (x67 - 1))) h_30)
 (fun r70 h_31 =>
 xIte r70 (fun J_21 =>
 Q (.bool false) h_31)
 (fun J_21 =>
 J_21 h_31)
 (fun  (h_32 : PH) =>
 xIdxA (⟨b7, 0, none⟩ : Addr) 4 x43 1 fun x72 =>
 xSt 1 h_32 x72 [(.bool false)] fun h_33 =>
 J_17 h_33)) h_30) h_22)
 (fun  (h_34 : PH) =>
 J_14 h_34))
 (fun  (h_35 : PH) =>
 J_13 h_35))
 (fun  (h_36 : PH) =>
 J_10 h_36))) h_20)
 (fun  (h_37 : PH) =>
 J_8 (IntKind.wrap .i64 (x38 + 1)) h_37)))) n_1 0 h_16)
 (fun  (h_38 : PH) =>
 Meets Try.prog 38 #[] h_38 fun v107 h_39 =>
 oB (some v107) fun x107 =>
 Q (.bool x107) h_39)))) h_1
theorem P_law15_GhostTurns_eq (a0a : Option Addr) (a0l : Nat) (a0c : Nat) (h : PH) (Q : Value → PH → Prop) : dFn Try.prog Try.f9 A_law15_GhostTurns #[(.slice a0a a0l a0c)] h Q = P_law15_GhostTurns a0a a0l a0c h Q := by kernel_rfl
theorem P_law15_GhostTurns_of {a0a : Option Addr} {a0l : Nat} {a0c : Nat} {h : PH} {Q : Value → PH → Prop} (x : P_law15_GhostTurns a0a a0l a0c h Q) : Meets Try.prog 9 #[(.slice a0a a0l a0c)] h Q :=
  spec_of Try.func9 mix (by kernel_rfl) ((P_law15_GhostTurns_eq a0a a0l a0c h Q).symm ▸ x)
/-- futtock/futtocklaw15.short -/
def A_law15_short : Ann := .seq (.leaf) (.seq (.leaf) (.leaf))
def P_law15_short (a0a : Option Addr) (a0l : Nat) (a0c : Nat) (h : PH) (Q : Value → PH → Prop) : Prop :=
 xSlice a0a a0l a0c 13 none (some (if 120 < ((a0l : Nat) : Int) then 120 else ((a0l : Nat) : Int))) fun x7a x7l x7c =>
 Q (.slice x7a x7l x7c) h
theorem P_law15_short_eq (a0a : Option Addr) (a0l : Nat) (a0c : Nat) (h : PH) (Q : Value → PH → Prop) : dFn Try.prog Try.f34 A_law15_short #[(.slice a0a a0l a0c)] h Q = P_law15_short a0a a0l a0c h Q := by kernel_rfl
theorem P_law15_short_of {a0a : Option Addr} {a0l : Nat} {a0c : Nat} {h : PH} {Q : Value → PH → Prop} (x : P_law15_short a0a a0l a0c h Q) : Meets Try.prog 34 #[(.slice a0a a0l a0c)] h Q :=
  spec_of Try.func34 mix (by kernel_rfl) ((P_law15_short_eq a0a a0l a0c h Q).symm ▸ x)
end Go.Proofs.Ytnnedfhpicdacaa
