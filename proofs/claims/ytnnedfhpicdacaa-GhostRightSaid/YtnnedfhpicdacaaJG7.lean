/- The readings of some functions, printed by a program of the session (wip/tools/sx.py): each by one equation that the kernel reckons. -/
import Derived.Test.YtnnedfhpicdacaaRows
import Derived.Test.YtnnedfhpicdacaaJG2
import Derived.Test.YtnnedfhpicdacaaJG5
import Derived.Test.YtnnedfhpicdacaaJG6

set_option linter.unusedVariables false
namespace Go.Proofs.Ytnnedfhpicdacaa
open Go Go.Sx Go.Proofs
/-- futtock/futtocklaw23.CheckSerial -/
def A_law23_CheckSerial : Ann := .seq (.leaf) (.seq (.seq (.leaf) (.cond [] (.seq (.leaf) (.leaf)) (.leaf))) (.seq (.draw [(0, .flt), (1, .flt), (2, .flt), (3, .flt), (4, .flt), (5, .flt), (6, .flt), (7, .eff), (8, .eff), (9, .flt), (10, .flt), (11, .flt), (12, .flt), (13, .flt)]) (.seq (.leaf) (.seq (.seq (.leaf) (.cond [] (.seq (.leaf) (.leaf)) (.leaf))) (.seq (.leaf) (.seq (.seq (.leaf) (.block [] (.loop [(66, (.int .i64))] (.seq (.leaf) (.seq (.cond [] (.leaf) (.leaf)) (.seq (.block [] (.seq (.leaf) (.seq (.leaf) (.seq (.leaf) (.cond [] (.seq (.leaf) (.leaf)) (.leaf)))))) (.leaf))))))) (.seq (.leaf) (.seq (.leaf) (.seq (.leaf) (.leaf))))))))))
def P_law23_CheckSerial (a0_0 : Int) (a0_1 : Int) (a0_2 : Int) (a1a : Option Addr) (a1l : Nat) (a1c : Nat) (h : PH) (Q : Value → PH → Prop) : Prop :=
 xNew h (.cells #[(.int .i64 a0_0), (.int .i64 a0_1), (.int .i64 a0_2)] 50 (0, 0)) fun b2 h_1 =>
 xIte (decide ((((a1l : Nat) : Int) : Int) > 12)) (fun J_1 =>
 Meets Try.prog 24 #[] h_1 fun v18 h_2 =>
 oB (some v18) fun x18 =>
 Q (.bool x18) h_2)
 (fun J_1 =>
 J_1 h_1)
 (fun  (h_3 : PH) =>
 xDraw h_3 fun hs_1 =>
 xIdxA (⟨b2, 0, none⟩ : Addr) 3 0 1 fun x20 =>
 oI .i64 (hs_1.cell x20) fun x21 =>
 xIdxA (⟨b2, 0, none⟩ : Addr) 3 1 1 fun x22 =>
 oI .i64 (hs_1.cell x22) fun x23 =>
 xIdxA (⟨b2, 0, none⟩ : Addr) 3 2 1 fun x24 =>
 oI .i64 (hs_1.cell x24) fun x25 =>
 Meets Try.prog 26 #[(.slice a1a a1l a1c)] h_3 fun v27 h_4 =>
 oS (some v27) fun x27a x27l x27c =>
 PH.le hs_1 h_4 ∧
 Meets Try.prog 31 #[(.int .i64 x21), (.int .i64 x23), (.int .i64 x25), (.slice x27a x27l x27c)] h_4 fun v28 h_5 =>
 oTup v28 2 fun x28cs =>
 oIx x28cs[0]? fun x28w =>
 oI .i64 (some x28w) fun x28_0 =>
 oIx x28cs[1]? fun x28w_1 =>
 oB (some x28w_1) fun x28_1 =>
 PH.le hs_1 h_5 ∧
 oI .i64 (some (.int .i64 x28_0)) fun x29 =>
 oB (some (.bool x28_1)) fun x30 =>
 xIdxA (⟨b2, 0, none⟩ : Addr) 3 0 1 fun x32 =>
 oI .i64 (h_5.cell x32) fun x33 =>
 xIdxA (⟨b2, 0, none⟩ : Addr) 3 1 1 fun x34 =>
 oI .i64 (h_5.cell x34) fun x35 =>
 xIdxA (⟨b2, 0, none⟩ : Addr) 3 2 1 fun x36 =>
 oI .i64 (h_5.cell x36) fun x37 =>
 Meets Try.prog 32 #[(.int .i64 x33), (.int .i64 x35), (.int .i64 x37), (.slice a1a a1l a1c)] h_5 fun v39 h_6 =>
 oTup v39 2 fun x39cs =>
 oIx x39cs[0]? fun x39w =>
 oI .i64 (some x39w) fun x39_0 =>
 oIx x39cs[1]? fun x39w_1 =>
 oB (some x39w_1) fun x39_1 =>
 oI .i64 (some (.int .i64 x39_0)) fun x40 =>
 oB (some (.bool x39_1)) fun x41 =>
 xSc (x29 != x40) false (fun J_2 =>
 J_2 (!(x30 == x41)) h_6)
 (fun r49 h_7 =>
 xSc r49 false (fun J_3 =>
 J_3 (decide ((x29 : Int) < 0)) h_7)
 (fun r53 h_8 =>
 xSc r53 false (fun J_4 =>
 J_4 (decide ((x29 : Int) > ((a1l : Nat) : Int))) h_8)
 (fun r59 h_9 =>
 xIte r59 (fun J_5 =>
 Q (.bool false) h_9)
 (fun J_5 =>
 J_5 h_9)
 (fun  (h_10 : PH) =>
 xSlice a1a a1l a1c 7 none (some x29) fun x62a x62l x62c =>
 Meets Try.prog 26 #[(.slice x62a x62l x62c)] h_10 fun v63 h_11 =>
 oS (some v63) fun x63a x63l x63c =>
 xBlk (fun J_6 =>
 ∃ n, xLoopN (fun _ _ => False) (fun J_7 =>
 (fun (x66 : Int) (h_12 : PH) =>
 xIte (decide ((x66 : Int) < ((x63l : Nat) : Int))) (fun J_8 =>
 J_8 h_12)
 (fun J_8 =>
 J_6 h_12)
 (fun  (h_13 : PH) =>
 xBlk (fun J_9 =>
 xIdx x63a x63l x66 7 fun x78 =>
 xSt 1 h_13 (x78.add 5) [(.int .i64 (IntKind.wrap .i64 (2 * x66)))] fun h_14 =>
 xIdx x63a x63l x66 7 fun x80 =>
 xSt 1 h_14 (x80.add 6) [(.int .i64 (IntKind.wrap .i64 ((IntKind.wrap .i64 (2 * x66)) + 1)))] fun h_15 =>
 xIdx x63a x63l x66 7 fun x84 =>
 oI .i64 (h_15.cell (x84.add 0)) fun x85_0 =>
 oI .i64 (h_15.cell (x84.add 1)) fun x85_1 =>
 oI .i64 (h_15.cell (x84.add 2)) fun x85_2 =>
 oI .i64 (h_15.cell (x84.add 3)) fun x85_3 =>
 oI .i64 (h_15.cell (x84.add 4)) fun x85_4 =>
 oI .i64 (h_15.cell (x84.add 5)) fun x85_5 =>
 oI .i64 (h_15.cell (x84.add 6)) fun x85_6 =>
 Meets Try.prog 29 #[(.agg #[(.int .i64 x85_0), (.int .i64 x85_1), (.int .i64 x85_2), (.int .i64 x85_3), (.int .i64 x85_4), (.int .i64 x85_5), (.int .i64 x85_6)])] h_15 fun v86 h_16 =>
 oB (some v86) fun x86 =>
 xIte (!x86) (fun J_10 =>
 Meets Try.prog 24 #[] h_16 fun v88 h_17 =>
 oB (some v88) fun x88 =>
 Q (.bool x88) h_17)
 (fun J_10 =>
 J_10 h_16)
 (fun  (h_18 : PH) =>
 J_9 h_18))
 (fun  (h_19 : PH) =>
 J_7 (IntKind.wrap .i64 (x66 + 1)) h_19)))) n 0 h_11)
 (fun  (h_20 : PH) =>
 xIdxA (⟨b2, 0, none⟩ : Addr) 3 0 1 fun x91 =>
 oI .i64 (h_20.cell x91) fun x92 =>
 xIdxA (⟨b2, 0, none⟩ : Addr) 3 1 1 fun x93 =>
 oI .i64 (h_20.cell x93) fun x94 =>
 xIdxA (⟨b2, 0, none⟩ : Addr) 3 2 1 fun x95 =>
 oI .i64 (h_20.cell x95) fun x96 =>
 Meets Try.prog 25 #[(.int .i64 x92), (.int .i64 x94), (.int .i64 x96), (.slice x63a x63l x63c)] h_20 fun v98 h_21 =>
 oTup v98 2 fun x98cs =>
 oIx x98cs[0]? fun x98w =>
 oB (some x98w) fun x98_0 =>
 oIx x98cs[1]? fun x98w_1 =>
 oI .i64 (some x98w_1) fun x98_1 =>
 oB (some (.bool x98_0)) fun x99 =>
 oI .i64 (some (.int .i64 x98_1)) fun x100 =>
 xIdxA (⟨b2, 0, none⟩ : Addr) 3 0 1 fun x102 =>
 oI .i64 (h_21.cell x102) fun x103 =>
 xIdxA (⟨b2, 0, none⟩ : Addr) 3 1 1 fun x104 =>
 oI .i64 (h_21.cell x104) fun x105 =>
 xIdxA (⟨b2, 0, none⟩ : Addr) 3 2 1 fun x106 =>
 oI .i64 (h_21.cell x106) fun x107 =>
 Meets Try.prog 33 #[(.int .i64 x103), (.int .i64 x105), (.int .i64 x107)] h_21 fun v108 h_22 =>
 oTup v108 2 fun x108cs =>
 oIx x108cs[0]? fun x108w =>
 oAgg x108w 227 fun x108_0cs =>
 oIx x108cs[1]? fun x108w_1 =>
 oI .i64 (some x108w_1) fun x108_1 =>
 oAgg (.agg x108_0cs) 227 fun x109cs =>
 oI .i64 (some (.int .i64 x108_1)) fun x110 =>
 xNew h_22 (.cells (zeroC Try.prog 77) 77 (0, 0)) fun b13 h_23 =>
 xSt 227 h_23 (⟨b13, 0, none⟩ : Addr) (Array.toList x109cs) fun h_24 =>
 xSc (x99 == (x110 == 0)) true (fun J_11 =>
 J_11 ((x100 == 0) == (x110 == 0)) h_24)
 (fun r121 h_25 =>
 xSc r121 true (fun J_12 =>
 Meets Try.prog 24 #[] h_25 fun v123 h_26 =>
 oB (some v123) fun x123 =>
 J_12 x123 h_26)
 (fun r124 h_27 =>
 Q (.bool r124) h_27) h_25) h_24))) h_8) h_7) h_6)
theorem P_law23_CheckSerial_eq (a0_0 : Int) (a0_1 : Int) (a0_2 : Int) (a1a : Option Addr) (a1l : Nat) (a1c : Nat) (h : PH) (Q : Value → PH → Prop) : dFn Try.prog Try.f6 A_law23_CheckSerial #[(.agg #[(.int .i64 a0_0), (.int .i64 a0_1), (.int .i64 a0_2)]), (.slice a1a a1l a1c)] h Q = P_law23_CheckSerial a0_0 a0_1 a0_2 a1a a1l a1c h Q := by kernel_rfl
theorem P_law23_CheckSerial_of {a0_0 : Int} {a0_1 : Int} {a0_2 : Int} {a1a : Option Addr} {a1l : Nat} {a1c : Nat} {h : PH} {Q : Value → PH → Prop} (x : P_law23_CheckSerial a0_0 a0_1 a0_2 a1a a1l a1c h Q) : Meets Try.prog 6 #[(.agg #[(.int .i64 a0_0), (.int .i64 a0_1), (.int .i64 a0_2)]), (.slice a1a a1l a1c)] h Q :=
  spec_of Try.func6 mix (by kernel_rfl) ((P_law23_CheckSerial_eq a0_0 a0_1 a0_2 a1a a1l a1c h Q).symm ▸ x)
/-- futtock/futtockref23.Order -/
def A_ref23_Order : Ann := .seq (.leaf) (.seq (.leaf) (.seq (.seq (.leaf) (.cond [] (.seq (.leaf) (.leaf)) (.leaf))) (.seq (.leaf) (.seq (.seq (.leaf) (.block [] (.loop [(14, (.int .i64))] (.seq (.seq (.leaf) (.cond [] (.leaf) (.leaf))) (.seq (.block [] (.leaf)) (.leaf)))))) (.seq (.leaf) (.seq (.leaf) (.leaf)))))))
def P_ref23_Order (a0 : Int) (a1 : Int) (a2 : Int) (a3a : Option Addr) (a3l : Nat) (a3c : Nat) (h : PH) (Q : Value → PH → Prop) : Prop :=
 Meets Try.prog 62 #[(.int .i64 a0), (.int .i64 a1), (.int .i64 a2), (.slice a3a a3l a3c)] h fun v22 h_1 =>
 oTup v22 2 fun x22cs =>
 oIx x22cs[0]? fun x22w =>
 oAgg x22w 227 fun x22_0cs =>
 oIx x22cs[1]? fun x22w_1 =>
 oI .i64 (some x22w_1) fun x22_1 =>
 oAgg (.agg x22_0cs) 227 fun x23cs =>
 oI .i64 (some (.int .i64 x22_1)) fun x24 =>
 xNew h_1 (.cells (zeroC Try.prog 77) 77 (0, 0)) fun b11 h_2 =>
 xSt 227 h_2 (⟨b11, 0, none⟩ : Addr) (Array.toList x23cs) fun h_3 =>
 xIte (x24 != 0) (fun J_1 =>
 Q (.tuple #[(.slice none 0 0), (.bool false), (.int .i64 x24)]) h_3)
 (fun J_1 =>
 J_1 h_3)
 (fun  (h_4 : PH) =>
 xMake h_4 4 #[(.bool false)] 1 ((a3l : Nat) : Int) ((a3l : Nat) : Int) fun x30a x30l x30c h_5 =>
 xBlk (fun J_2 =>
 ∃ n, xLoopN (fun _ _ => False) (fun J_3 =>
 (fun (x14 : Int) (h_6 : PH) =>
 xIte (decide ((x14 : Int) < ((a3l : Nat) : Int))) (fun J_4 =>
 J_4 h_6)
 (fun J_4 =>
 J_2 h_6)
 (fun  (h_7 : PH) =>
 xBlk (fun J_5 =>
 xIdx x30a x30l x14 1 fun x39 =>
 xSt 1 h_7 x39 [(.bool true)] fun h_8 =>
 J_5 h_8)
 (fun  (h_9 : PH) =>
 J_3 (IntKind.wrap .i64 (x14 + 1)) h_9)))) n 0 h_5)
 (fun  (h_10 : PH) =>
 oBig h_10 (⟨b11, 0, none⟩ : Addr) 227 fun x41 =>
 Meets Try.prog 63 #[(.agg x41), (.slice a3a a3l a3c), (.slice x30a x30l x30c), (.int .i64 ((a3l : Nat) : Int))] h_10 fun v46 h_11 =>
 oTup v46 2 fun x46cs =>
 oIx x46cs[0]? fun x46w =>
 oS (some x46w) fun x46_0a x46_0l x46_0c =>
 oIx x46cs[1]? fun x46w_1 =>
 oB (some x46w_1) fun x46_1 =>
 oS (some (.slice x46_0a x46_0l x46_0c)) fun x47a x47l x47c =>
 oB (some (.bool x46_1)) fun x48 =>
 Q (.tuple #[(.slice x47a x47l x47c), (.bool x48), (.int .i64 0)]) h_11))
theorem P_ref23_Order_eq (a0 : Int) (a1 : Int) (a2 : Int) (a3a : Option Addr) (a3l : Nat) (a3c : Nat) (h : PH) (Q : Value → PH → Prop) : dFn Try.prog Try.f28 A_ref23_Order #[(.int .i64 a0), (.int .i64 a1), (.int .i64 a2), (.slice a3a a3l a3c)] h Q = P_ref23_Order a0 a1 a2 a3a a3l a3c h Q := by kernel_rfl
theorem P_ref23_Order_of {a0 : Int} {a1 : Int} {a2 : Int} {a3a : Option Addr} {a3l : Nat} {a3c : Nat} {h : PH} {Q : Value → PH → Prop} (x : P_ref23_Order a0 a1 a2 a3a a3l a3c h Q) : Meets Try.prog 28 #[(.int .i64 a0), (.int .i64 a1), (.int .i64 a2), (.slice a3a a3l a3c)] h Q :=
  spec_of Try.func28 mix (by kernel_rfl) ((P_ref23_Order_eq a0 a1 a2 a3a a3l a3c h Q).symm ▸ x)
/-- futtock/futtockref23.May -/
def A_ref23_May : Ann := .seq (.leaf) (.seq (.seq (.leaf) (.cond [] (.seq (.leaf) (.leaf)) (.leaf))) (.seq (.seq (.leaf) (.block [] (.seq (.seq (.leaf) (.cond [(11, .bool)] (.leaf) (.seq (.leaf) (.cond [(11, .bool)] (.leaf) (.seq (.leaf) (.cond [(11, .bool)] (.leaf) (.seq (.leaf) (.cond [(11, .bool)] (.leaf) (.seq (.leaf) (.cond [(11, .bool)] (.leaf) (.leaf))))))))))) (.cond [] (.seq (.leaf) (.leaf)) (.seq (.leaf) (.cond [] (.seq (.leaf) (.leaf)) (.seq (.leaf) (.cond [] (.seq (.leaf) (.leaf)) (.leaf))))))))) (.seq (.leaf) (.leaf))))
def P_ref23_May (a0_0 : Int) (a0_1 : Int) (a0_2 : Int) (a0_3 : Int) (a0_4 : Int) (a0_5 : Int) (a0_6 : Int) (h : PH) (Q : Value → PH → Prop) : Prop :=
 xNew h (.cells #[(.int .i64 a0_0), (.int .i64 a0_1), (.int .i64 a0_2), (.int .i64 a0_3), (.int .i64 a0_4), (.int .i64 a0_5), (.int .i64 a0_6)] 65 (0, 0)) fun b1 h_1 =>
 oI .i64 (h_1.cell ((⟨b1, 0, none⟩ : Addr).add 5)) fun x4 =>
 oI .i64 (h_1.cell ((⟨b1, 0, none⟩ : Addr).add 6)) fun x6 =>
 xIte (decide ((x4 : Int) ≥ x6)) (fun J_1 =>
 Q (.bool false) h_1)
 (fun J_1 =>
 J_1 h_1)
 (fun  (h_2 : PH) =>
 oI .i64 (h_2.cell (((⟨b1, 0, none⟩ : Addr).add 0).add 0)) fun x10 =>
 xBlk (fun J_2 =>
 xIte (x10 == 1) (fun J_3 =>
 J_3 (x10 == 1) h_2)
 (fun J_3 =>
 xIte (x10 == 2) (fun J_4 =>
 J_4 (x10 == 2) h_2)
 (fun J_4 =>
 xIte (x10 == 3) (fun J_5 =>
 J_5 (x10 == 3) h_2)
 (fun J_5 =>
 xIte (x10 == 9) (fun J_6 =>
 J_6 (x10 == 9) h_2)
 (fun J_6 =>
 xIte (x10 == 11) (fun J_7 =>
 J_7 (x10 == 11) h_2)
 (fun J_7 =>
 J_7 (x10 == 12) h_2)
 (fun (x11 : Bool) (h_3 : PH) =>
 J_6 x11 h_3))
 (fun (x11_1 : Bool) (h_4 : PH) =>
 J_5 x11_1 h_4))
 (fun (x11_2 : Bool) (h_5 : PH) =>
 J_4 x11_2 h_5))
 (fun (x11_3 : Bool) (h_6 : PH) =>
 J_3 x11_3 h_6))
 (fun (x11_4 : Bool) (h_7 : PH) =>
 xIte x11_4 (fun J_8 =>
 Q (.bool true) h_7)
 (fun J_8 =>
 xIte (x10 == 8) (fun J_9 =>
 oI .i64 (h_7.cell (((⟨b1, 0, none⟩ : Addr).add 0).add 3)) fun x22 =>
 Q (.bool (x22 == (-1))) h_7)
 (fun J_9 =>
 xIte (x10 == 10) (fun J_10 =>
 oI .i64 (h_7.cell (((⟨b1, 0, none⟩ : Addr).add 0).add 4)) fun x28 =>
 Q (.bool (x28 == 0)) h_7)
 (fun J_10 =>
 J_10 h_7)
 (fun  (h_8 : PH) =>
 J_9 h_8))
 (fun  (h_9 : PH) =>
 J_8 h_9))
 (fun  (h_10 : PH) =>
 J_2 h_10)))
 (fun  (h_11 : PH) =>
 Q (.bool false) h_11))
theorem P_ref23_May_eq (a0_0 : Int) (a0_1 : Int) (a0_2 : Int) (a0_3 : Int) (a0_4 : Int) (a0_5 : Int) (a0_6 : Int) (h : PH) (Q : Value → PH → Prop) : dFn Try.prog Try.f30 A_ref23_May #[(.agg #[(.int .i64 a0_0), (.int .i64 a0_1), (.int .i64 a0_2), (.int .i64 a0_3), (.int .i64 a0_4), (.int .i64 a0_5), (.int .i64 a0_6)])] h Q = P_ref23_May a0_0 a0_1 a0_2 a0_3 a0_4 a0_5 a0_6 h Q := by kernel_rfl
theorem P_ref23_May_of {a0_0 : Int} {a0_1 : Int} {a0_2 : Int} {a0_3 : Int} {a0_4 : Int} {a0_5 : Int} {a0_6 : Int} {h : PH} {Q : Value → PH → Prop} (x : P_ref23_May a0_0 a0_1 a0_2 a0_3 a0_4 a0_5 a0_6 h Q) : Meets Try.prog 30 #[(.agg #[(.int .i64 a0_0), (.int .i64 a0_1), (.int .i64 a0_2), (.int .i64 a0_3), (.int .i64 a0_4), (.int .i64 a0_5), (.int .i64 a0_6)])] h Q :=
  spec_of Try.func30 mix (by kernel_rfl) ((P_ref23_May_eq a0_0 a0_1 a0_2 a0_3 a0_4 a0_5 a0_6 h Q).symm ▸ x)
/-- futtock/futtockref23.Serial -/
def A_ref23_Serial : Ann := .seq (.leaf) (.seq (.leaf) (.seq (.seq (.leaf) (.cond [] (.seq (.leaf) (.leaf)) (.leaf))) (.seq (.seq (.leaf) (.block [] (.loop [(12, (.int .i64))] (.seq (.seq (.leaf) (.cond [] (.leaf) (.leaf))) (.seq (.block [] (.seq (.draw2 [(0, .flt), (1, .flt), (2, .flt), (3, .flt), (4, .flt), (5, .flt)] [(6, .eff), (7, .flt), (8, .flt), (9, .flt), (10, .eff), (11, .eff), (12, .flt)] [(10, .eff), (6, .eff), (7, .flt), (8, .flt), (9, .flt), (11, .eff), (12, .flt)]) (.seq (.seq (.leaf) (.cond [] (.seq (.leaf) (.leaf)) (.leaf))) (.leaf)))) (.leaf)))))) (.seq (.leaf) (.leaf)))))
def P_ref23_Serial (a0 : Int) (a1 : Int) (a2 : Int) (a3a : Option Addr) (a3l : Nat) (a3c : Nat) (h : PH) (Q : Value → PH → Prop) : Prop :=
 Meets Try.prog 33 #[(.int .i64 a0), (.int .i64 a1), (.int .i64 a2)] h fun v19 h_1 =>
 oTup v19 2 fun x19cs =>
 oIx x19cs[0]? fun x19w =>
 oAgg x19w 227 fun x19_0cs =>
 oIx x19cs[1]? fun x19w_1 =>
 oI .i64 (some x19w_1) fun x19_1 =>
 oAgg (.agg x19_0cs) 227 fun x20cs =>
 oI .i64 (some (.int .i64 x19_1)) fun x21 =>
 xNew h_1 (.cells (zeroC Try.prog 77) 77 (0, 0)) fun b10 h_2 =>
 xSt 227 h_2 (⟨b10, 0, none⟩ : Addr) (Array.toList x20cs) fun h_3 =>
 xIte (x21 != 0) (fun J_1 =>
 Q (.tuple #[(.int .i64 0), (.bool false)]) h_3)
 (fun J_1 =>
 J_1 h_3)
 (fun  (h_4 : PH) =>
 xBlk (fun J_2 =>
 ∃ n, xLoopN (fun _ _ => False) (fun J_3 =>
 (fun (x12 : Int) (h_5 : PH) =>
 xIte (decide ((x12 : Int) < ((a3l : Nat) : Int))) (fun J_4 =>
 J_4 h_5)
 (fun J_4 =>
 J_2 h_5)
 (fun  (h_6 : PH) =>
 xBlk (fun J_5 =>
 xDraw h_6 fun hs_1 =>
 oBig hs_1 (⟨b10, 0, none⟩ : Addr) 227 fun x31 =>
 xIdx a3a a3l x12 7 fun x34 =>
 oI .i64 (hs_1.cell ((x34.add 0).add 0)) fun x36_0 =>
 oI .i64 (hs_1.cell ((x34.add 0).add 1)) fun x36_1 =>
 oI .i64 (hs_1.cell ((x34.add 0).add 2)) fun x36_2 =>
 oI .i64 (hs_1.cell ((x34.add 0).add 3)) fun x36_3 =>
 oI .i64 (hs_1.cell ((x34.add 0).add 4)) fun x36_4 =>
 (Meets Try.prog 64 #[(.agg x31), (.agg #[(.int .i64 x36_0), (.int .i64 x36_1), (.int .i64 x36_2), (.int .i64 x36_3), (.int .i64 x36_4)])] h_6 fun v37 h_7 =>
 oTup v37 2 fun x37cs =>
 oIx x37cs[0]? fun x37w =>
 oAgg x37w 227 fun x37_0cs =>
 oIx x37cs[1]? fun x37w_1 =>
 oI .i64 (some x37w_1) fun x37_1 =>
 PH.le hs_1 h_7 ∧
 oAgg (.agg x37_0cs) 227 fun x38cs =>
 oI .i64 (some (.int .i64 x37_1)) fun x39 =>
 xNew h_7 (.cells (zeroC Try.prog 77) 77 (0, 0)) fun b13 h_8 =>
 PH.le hs_1 h_8 ∧
 xSt 227 h_8 (⟨b13, 0, none⟩ : Addr) (Array.toList x38cs) fun h_9 =>
 PH.le hs_1 h_9 ∧
 xIte (x39 != 0) (fun J_6 =>
 Q (.tuple #[(.int .i64 x12), (.bool false)]) h_9)
 (fun J_6 =>
 J_6 h_9)
 (fun  (h_10 : PH) =>
 oBig h_10 (⟨b13, 0, none⟩ : Addr) 227 fun x43 =>
 xSt 227 h_10 (⟨b10, 0, none⟩ : Addr) (Array.toList x43) fun h_11 =>
 J_5 h_11)) ∧
 (xNew h_6 (.cells (zeroC Try.prog 77) 77 (0, 0)) fun b13_1 h_12 =>
 PH.le hs_1 h_12 ∧
 Meets Try.prog 64 #[(.agg x31), (.agg #[(.int .i64 x36_0), (.int .i64 x36_1), (.int .i64 x36_2), (.int .i64 x36_3), (.int .i64 x36_4)])] h_12 fun v37_1 h_13 =>
 oTup v37_1 2 fun x37cs_1 =>
 oIx x37cs_1[0]? fun x37w_2 =>
 oAgg x37w_2 227 fun x37_0cs_1 =>
 oIx x37cs_1[1]? fun x37w_3 =>
 oI .i64 (some x37w_3) fun x37_1_1 =>
 PH.le hs_1 h_13 ∧
 oAgg (.agg x37_0cs_1) 227 fun x38cs_1 =>
 oI .i64 (some (.int .i64 x37_1_1)) fun x39_1 =>
 xSt 227 h_13 (⟨b13_1, 0, none⟩ : Addr) (Array.toList x38cs_1) fun h_14 =>
 PH.le hs_1 h_14 ∧
 xIte (x39_1 != 0) (fun J_7 =>
 Q (.tuple #[(.int .i64 x12), (.bool false)]) h_14)
 (fun J_7 =>
 J_7 h_14)
 (fun  (h_15 : PH) =>
 oBig h_15 (⟨b13_1, 0, none⟩ : Addr) 227 fun x43_1 =>
 xSt 227 h_15 (⟨b10, 0, none⟩ : Addr) (Array.toList x43_1) fun h_16 =>
 J_5 h_16)))
 (fun  (h_17 : PH) =>
 J_3 (IntKind.wrap .i64 (x12 + 1)) h_17)))) n 0 h_4)
 (fun  (h_18 : PH) =>
 Q (.tuple #[(.int .i64 ((a3l : Nat) : Int)), (.bool true)]) h_18))
theorem P_ref23_Serial_eq (a0 : Int) (a1 : Int) (a2 : Int) (a3a : Option Addr) (a3l : Nat) (a3c : Nat) (h : PH) (Q : Value → PH → Prop) : dFn Try.prog Try.f32 A_ref23_Serial #[(.int .i64 a0), (.int .i64 a1), (.int .i64 a2), (.slice a3a a3l a3c)] h Q = P_ref23_Serial a0 a1 a2 a3a a3l a3c h Q := by kernel_rfl
theorem P_ref23_Serial_of {a0 : Int} {a1 : Int} {a2 : Int} {a3a : Option Addr} {a3l : Nat} {a3c : Nat} {h : PH} {Q : Value → PH → Prop} (x : P_ref23_Serial a0 a1 a2 a3a a3l a3c h Q) : Meets Try.prog 32 #[(.int .i64 a0), (.int .i64 a1), (.int .i64 a2), (.slice a3a a3l a3c)] h Q :=
  spec_of Try.func32 mix (by kernel_rfl) ((P_ref23_Serial_eq a0 a1 a2 a3a a3l a3c h Q).symm ▸ x)
/-- futtock/futtockref14.New -/
def A_ref14_New : Ann := .seq (.leaf) (.seq (.seq (.leaf) (.cond [] (.seq (.leaf) (.leaf)) (.leaf))) (.seq (.leaf) (.leaf)))
def P_ref14_New (a0 : Int) (a1 : Int) (a2 : Int) (h : PH) (Q : Value → PH → Prop) : Prop :=
 xNew h (.cells (zeroC Try.prog 77) 77 (0, 0)) fun b6 h_1 =>
 xSc (decide ((a0 : Int) < 1)) false (fun J_1 =>
 J_1 (decide ((a0 : Int) > 8)) h_1)
 (fun r13 h_2 =>
 xSc r13 false (fun J_2 =>
 J_2 (decide ((a1 : Int) < 1)) h_2)
 (fun r17 h_3 =>
 xSc r17 false (fun J_3 =>
 J_3 (decide ((a1 : Int) > 8)) h_3)
 (fun r21 h_4 =>
 xSc r21 false (fun J_4 =>
 J_4 (decide ((a2 : Int) < 1)) h_4)
 (fun r25 h_5 =>
 xSc r25 false (fun J_5 =>
 J_5 (decide ((a2 : Int) > 60)) h_5)
 (fun r29 h_6 =>
 xIte r29 (fun J_6 =>
 xSt 227 h_6 (⟨b6, 0, none⟩ : Addr) (Array.toList (zeroC Try.prog 77)) fun h_7 =>
 oBig h_7 (⟨b6, 0, none⟩ : Addr) 227 fun y6 =>
 Q (.tuple #[(.agg y6), (.int .i64 1)]) h_7)
 (fun J_6 =>
 J_6 h_6)
 (fun  (h_8 : PH) =>
 xSt 227 h_8 (⟨b6, 0, none⟩ : Addr) (Array.toList (setN (setN (setN (zeroC Try.prog 77) 0 [(.int .i64 a0)]) 1 [(.int .i64 a1)]) 2 [(.int .i64 a2)])) fun h_9 =>
 oBig h_9 (⟨b6, 0, none⟩ : Addr) 227 fun y6_1 =>
 Q (.tuple #[(.agg y6_1), (.int .i64 0)]) h_9)) h_5) h_4) h_3) h_2) h_1
theorem P_ref14_New_eq (a0 : Int) (a1 : Int) (a2 : Int) (h : PH) (Q : Value → PH → Prop) : dFn Try.prog Try.f33 A_ref14_New #[(.int .i64 a0), (.int .i64 a1), (.int .i64 a2)] h Q = P_ref14_New a0 a1 a2 h Q := by kernel_rfl
theorem P_ref14_New_of {a0 : Int} {a1 : Int} {a2 : Int} {h : PH} {Q : Value → PH → Prop} (x : P_ref14_New a0 a1 a2 h Q) : Meets Try.prog 33 #[(.int .i64 a0), (.int .i64 a1), (.int .i64 a2)] h Q :=
  spec_of Try.func33 mix (by kernel_rfl) ((P_ref14_New_eq a0 a1 a2 h Q).symm ▸ x)
/-- futtock/futtockref23.asked -/
def A_ref23_asked : Ann := .seq (.leaf) (.seq (.leaf) (.seq (.seq (.leaf) (.cond [] (.seq (.leaf) (.leaf)) (.leaf))) (.seq (.seq (.leaf) (.block [] (.loop [(12, (.int .i64))] (.seq (.seq (.leaf) (.cond [] (.leaf) (.leaf))) (.seq (.block [] (.seq (.leaf) (.cond [] (.seq (.leaf) (.leaf)) (.leaf)))) (.leaf)))))) (.seq (.seq (.leaf) (.cond [] (.seq (.leaf) (.leaf)) (.leaf))) (.seq (.leaf) (.leaf))))))
def P_ref23_asked (a0 : Int) (a1 : Int) (a2 : Int) (a3a : Option Addr) (a3l : Nat) (a3c : Nat) (h : PH) (Q : Value → PH → Prop) : Prop :=
 xNew h (.cells (zeroC Try.prog 77) 77 (0, 0)) fun b8 h_1 =>
 Meets Try.prog 33 #[(.int .i64 a0), (.int .i64 a1), (.int .i64 a2)] h_1 fun v17 h_2 =>
 oTup v17 2 fun x17cs =>
 oIx x17cs[0]? fun x17w =>
 oAgg x17w 227 fun x17_0cs =>
 oIx x17cs[1]? fun x17w_1 =>
 oI .i64 (some x17w_1) fun x17_1 =>
 oAgg (.agg x17_0cs) 227 fun x18cs =>
 oI .i64 (some (.int .i64 x17_1)) fun x19 =>
 xNew h_2 (.cells (zeroC Try.prog 77) 77 (0, 0)) fun b10 h_3 =>
 xSt 227 h_3 (⟨b10, 0, none⟩ : Addr) (Array.toList x18cs) fun h_4 =>
 xIte (x19 != 0) (fun J_1 =>
 oBig h_4 (⟨b10, 0, none⟩ : Addr) 227 fun x22 =>
 xSt 227 h_4 (⟨b8, 0, none⟩ : Addr) (Array.toList x22) fun h_5 =>
 oBig h_5 (⟨b8, 0, none⟩ : Addr) 227 fun y8 =>
 Q (.tuple #[(.agg y8), (.int .i64 1)]) h_5)
 (fun J_1 =>
 J_1 h_4)
 (fun  (h_6 : PH) =>
 xBlk (fun J_2 =>
 ∃ n, xLoopN (fun _ _ => False) (fun J_3 =>
 (fun (x12 : Int) (h_7 : PH) =>
 xIte (decide ((x12 : Int) < ((a3l : Nat) : Int))) (fun J_4 =>
 J_4 h_7)
 (fun J_4 =>
 J_2 h_7)
 (fun  (h_8 : PH) =>
 xBlk (fun J_5 =>
 xIdx a3a a3l x12 7 fun x31 =>
 oI .i64 (h_8.cell (x31.add 0)) fun x32_0 =>
 oI .i64 (h_8.cell (x31.add 1)) fun x32_1 =>
 oI .i64 (h_8.cell (x31.add 2)) fun x32_2 =>
 oI .i64 (h_8.cell (x31.add 3)) fun x32_3 =>
 oI .i64 (h_8.cell (x31.add 4)) fun x32_4 =>
 oI .i64 (h_8.cell (x31.add 5)) fun x32_5 =>
 oI .i64 (h_8.cell (x31.add 6)) fun x32_6 =>
 Meets Try.prog 30 #[(.agg #[(.int .i64 x32_0), (.int .i64 x32_1), (.int .i64 x32_2), (.int .i64 x32_3), (.int .i64 x32_4), (.int .i64 x32_5), (.int .i64 x32_6)])] h_8 fun v33 h_9 =>
 oB (some v33) fun x33 =>
 xIte (!x33) (fun J_6 =>
 oBig h_9 (⟨b10, 0, none⟩ : Addr) 227 fun x35 =>
 xSt 227 h_9 (⟨b8, 0, none⟩ : Addr) (Array.toList x35) fun h_10 =>
 oBig h_10 (⟨b8, 0, none⟩ : Addr) 227 fun y8_1 =>
 Q (.tuple #[(.agg y8_1), (.int .i64 1)]) h_10)
 (fun J_6 =>
 J_6 h_9)
 (fun  (h_11 : PH) =>
 J_5 h_11))
 (fun  (h_12 : PH) =>
 J_3 (IntKind.wrap .i64 (x12 + 1)) h_12)))) n 0 h_6)
 (fun  (h_13 : PH) =>
 xIte (decide ((((a3l : Nat) : Int) : Int) > 12)) (fun J_7 =>
 oBig h_13 (⟨b10, 0, none⟩ : Addr) 227 fun x39 =>
 xSt 227 h_13 (⟨b8, 0, none⟩ : Addr) (Array.toList x39) fun h_14 =>
 oBig h_14 (⟨b8, 0, none⟩ : Addr) 227 fun y8_2 =>
 Q (.tuple #[(.agg y8_2), (.int .i64 5)]) h_14)
 (fun J_7 =>
 J_7 h_13)
 (fun  (h_15 : PH) =>
 oBig h_15 (⟨b10, 0, none⟩ : Addr) 227 fun x40 =>
 xSt 227 h_15 (⟨b8, 0, none⟩ : Addr) (Array.toList x40) fun h_16 =>
 oBig h_16 (⟨b8, 0, none⟩ : Addr) 227 fun y8_3 =>
 Q (.tuple #[(.agg y8_3), (.int .i64 0)]) h_16)))
theorem P_ref23_asked_eq (a0 : Int) (a1 : Int) (a2 : Int) (a3a : Option Addr) (a3l : Nat) (a3c : Nat) (h : PH) (Q : Value → PH → Prop) : dFn Try.prog Try.f62 A_ref23_asked #[(.int .i64 a0), (.int .i64 a1), (.int .i64 a2), (.slice a3a a3l a3c)] h Q = P_ref23_asked a0 a1 a2 a3a a3l a3c h Q := by kernel_rfl
theorem P_ref23_asked_of {a0 : Int} {a1 : Int} {a2 : Int} {a3a : Option Addr} {a3l : Nat} {a3c : Nat} {h : PH} {Q : Value → PH → Prop} (x : P_ref23_asked a0 a1 a2 a3a a3l a3c h Q) : Meets Try.prog 62 #[(.int .i64 a0), (.int .i64 a1), (.int .i64 a2), (.slice a3a a3l a3c)] h Q :=
  spec_of Try.func62 mix (by kernel_rfl) ((P_ref23_asked_eq a0 a1 a2 a3a a3l a3c h Q).symm ▸ x)
/-- futtock/futtockref23.rest -/
def A_ref23_rest : Ann := .seq (.leaf) (.seq (.seq (.leaf) (.cond [] (.seq (.leaf) (.leaf)) (.leaf))) (.seq (.seq (.leaf) (.block [] (.loop [(10, (.int .i64))] (.seq (.seq (.leaf) (.cond [] (.leaf) (.leaf))) (.seq (.block [] (.seq (.seq (.leaf) (.cond [] (.leaf) (.leaf))) (.seq (.draw2 [(0, .flt), (1, .flt), (2, .flt), (3, .flt), (4, .flt), (5, .flt)] [(6, .eff), (7, .flt), (8, .flt), (9, .flt), (10, .eff), (11, .eff), (12, .flt)] [(10, .eff), (6, .eff), (7, .flt), (8, .flt), (9, .flt), (11, .eff), (12, .flt)]) (.seq (.seq (.leaf) (.cond [] (.leaf) (.leaf))) (.seq (.leaf) (.seq (.leaf) (.seq (.leaf) (.seq (.leaf) (.cond [] (.seq (.leaf) (.leaf)) (.leaf)))))))))) (.leaf)))))) (.seq (.leaf) (.leaf))))
def P_ref23_rest (a0 : Array Value) (a1a : Option Addr) (a1l : Nat) (a1c : Nat) (a2a : Option Addr) (a2l : Nat) (a2c : Nat) (a3 : Int) (h : PH) (Q : Value → PH → Prop) : Prop :=
 xNew h (.cells a0 77 (0, 0)) fun b4 h_1 =>
 xIte (a3 == 0) (fun J_1 =>
 Q (.tuple #[(.slice none 0 0), (.bool true)]) h_1)
 (fun J_1 =>
 J_1 h_1)
 (fun  (h_2 : PH) =>
 xBlk (fun J_2 =>
 ∃ n, xLoopN (fun _ _ => False) (fun J_3 =>
 (fun (x10 : Int) (h_3 : PH) =>
 xIte (decide ((x10 : Int) < ((a1l : Nat) : Int))) (fun J_4 =>
 J_4 h_3)
 (fun J_4 =>
 J_2 h_3)
 (fun  (h_4 : PH) =>
 xBlk (fun J_5 =>
 Meets Try.prog 90 #[(.slice a1a a1l a1c), (.slice a2a a2l a2c), (.int .i64 x10)] h_4 fun v27 h_5 =>
 oB (some v27) fun x27 =>
 xIte (!x27) (fun J_6 =>
 J_5 h_5)
 (fun J_6 =>
 J_6 h_5)
 (fun  (h_6 : PH) =>
 xDraw h_6 fun hs_1 =>
 oBig hs_1 (⟨b4, 0, none⟩ : Addr) 227 fun x30 =>
 xIdx a1a a1l x10 7 fun x33 =>
 oI .i64 (hs_1.cell ((x33.add 0).add 0)) fun x35_0 =>
 oI .i64 (hs_1.cell ((x33.add 0).add 1)) fun x35_1 =>
 oI .i64 (hs_1.cell ((x33.add 0).add 2)) fun x35_2 =>
 oI .i64 (hs_1.cell ((x33.add 0).add 3)) fun x35_3 =>
 oI .i64 (hs_1.cell ((x33.add 0).add 4)) fun x35_4 =>
 (Meets Try.prog 64 #[(.agg x30), (.agg #[(.int .i64 x35_0), (.int .i64 x35_1), (.int .i64 x35_2), (.int .i64 x35_3), (.int .i64 x35_4)])] h_6 fun v36 h_7 =>
 oTup v36 2 fun x36cs =>
 oIx x36cs[0]? fun x36w =>
 oAgg x36w 227 fun x36_0cs =>
 oIx x36cs[1]? fun x36w_1 =>
 oI .i64 (some x36w_1) fun x36_1 =>
 PH.le hs_1 h_7 ∧
 oAgg (.agg x36_0cs) 227 fun x37cs =>
 oI .i64 (some (.int .i64 x36_1)) fun x38 =>
 xNew h_7 (.cells (zeroC Try.prog 77) 77 (0, 0)) fun b11 h_8 =>
 PH.le hs_1 h_8 ∧
 xSt 227 h_8 (⟨b11, 0, none⟩ : Addr) (Array.toList x37cs) fun h_9 =>
 PH.le hs_1 h_9 ∧
 xIte (x38 != 0) (fun J_7 =>
 J_5 h_9)
 (fun J_7 =>
 J_7 h_9)
 (fun  (h_10 : PH) =>
 xApp h_10 4 1 1 none 0 0 (.slice a2a a2l a2c) fun x42a x42l x42c h_11 =>
 xIdx x42a x42l x10 1 fun x45 =>
 xSt 1 h_11 x45 [(.bool false)] fun h_12 =>
 oBig h_12 (⟨b11, 0, none⟩ : Addr) 227 fun x47 =>
 Meets Try.prog 63 #[(.agg x47), (.slice a1a a1l a1c), (.slice x42a x42l x42c), (.int .i64 (IntKind.wrap .i64 (a3 - 1)))] h_12 fun v52 h_13 =>
 oTup v52 2 fun x52cs =>
 oIx x52cs[0]? fun x52w =>
 oS (some x52w) fun x52_0a x52_0l x52_0c =>
 oIx x52cs[1]? fun x52w_1 =>
 oB (some x52w_1) fun x52_1 =>
 oS (some (.slice x52_0a x52_0l x52_0c)) fun x53a x53l x53c =>
 oB (some (.bool x52_1)) fun x54 =>
 xIte x54 (fun J_8 =>
 xNew h_13 (.cells #[(.int .i64 x10)] 3 (0, 0)) fun b57 h_14 =>
 xApp h_14 3 1 8 (some (⟨b57, 0, none⟩ : Addr)) 1 1 (.slice x53a x53l x53c) fun x59a x59l x59c h_15 =>
 Q (.tuple #[(.slice x59a x59l x59c), (.bool true)]) h_15)
 (fun J_8 =>
 J_8 h_13)
 (fun  (h_16 : PH) =>
 J_5 h_16))) ∧
 (xNew h_6 (.cells (zeroC Try.prog 77) 77 (0, 0)) fun b11_1 h_17 =>
 PH.le hs_1 h_17 ∧
 Meets Try.prog 64 #[(.agg x30), (.agg #[(.int .i64 x35_0), (.int .i64 x35_1), (.int .i64 x35_2), (.int .i64 x35_3), (.int .i64 x35_4)])] h_17 fun v36_1 h_18 =>
 oTup v36_1 2 fun x36cs_1 =>
 oIx x36cs_1[0]? fun x36w_2 =>
 oAgg x36w_2 227 fun x36_0cs_1 =>
 oIx x36cs_1[1]? fun x36w_3 =>
 oI .i64 (some x36w_3) fun x36_1_1 =>
 PH.le hs_1 h_18 ∧
 oAgg (.agg x36_0cs_1) 227 fun x37cs_1 =>
 oI .i64 (some (.int .i64 x36_1_1)) fun x38_1 =>
 xSt 227 h_18 (⟨b11_1, 0, none⟩ : Addr) (Array.toList x37cs_1) fun h_19 =>
 PH.le hs_1 h_19 ∧
 xIte (x38_1 != 0) (fun J_9 =>
 J_5 h_19)
 (fun J_9 =>
 J_9 h_19)
 (fun  (h_20 : PH) =>
 xApp h_20 4 1 1 none 0 0 (.slice a2a a2l a2c) fun x42a_1 x42l_1 x42c_1 h_21 =>
 xIdx x42a_1 x42l_1 x10 1 fun x45_1 =>
 xSt 1 h_21 x45_1 [(.bool false)] fun h_22 =>
 oBig h_22 (⟨b11_1, 0, none⟩ : Addr) 227 fun x47_1 =>
 Meets Try.prog 63 #[(.agg x47_1), (.slice a1a a1l a1c), (.slice x42a_1 x42l_1 x42c_1), (.int .i64 (IntKind.wrap .i64 (a3 - 1)))] h_22 fun v52_1 h_23 =>
 oTup v52_1 2 fun x52cs_1 =>
 oIx x52cs_1[0]? fun x52w_2 =>
 oS (some x52w_2) fun x52_0a_1 x52_0l_1 x52_0c_1 =>
 oIx x52cs_1[1]? fun x52w_3 =>
 oB (some x52w_3) fun x52_1_1 =>
 oS (some (.slice x52_0a_1 x52_0l_1 x52_0c_1)) fun x53a_1 x53l_1 x53c_1 =>
 oB (some (.bool x52_1_1)) fun x54_1 =>
 xIte x54_1 (fun J_10 =>
 xNew h_23 (.cells #[(.int .i64 x10)] 3 (0, 0)) fun b57_1 h_24 =>
 xApp h_24 3 1 8 (some (⟨b57_1, 0, none⟩ : Addr)) 1 1 (.slice x53a_1 x53l_1 x53c_1) fun x59a_1 x59l_1 x59c_1 h_25 =>
 Q (.tuple #[(.slice x59a_1 x59l_1 x59c_1), (.bool true)]) h_25)
 (fun J_10 =>
 J_10 h_23)
 (fun  (h_26 : PH) =>
 J_5 h_26)))))
 (fun  (h_27 : PH) =>
 J_3 (IntKind.wrap .i64 (x10 + 1)) h_27)))) n 0 h_2)
 (fun  (h_28 : PH) =>
 Q (.tuple #[(.slice none 0 0), (.bool false)]) h_28))
theorem P_ref23_rest_eq (a0 : Array Value) (a1a : Option Addr) (a1l : Nat) (a1c : Nat) (a2a : Option Addr) (a2l : Nat) (a2c : Nat) (a3 : Int) (h : PH) (Q : Value → PH → Prop) : dFn Try.prog Try.f63 A_ref23_rest #[(.agg a0), (.slice a1a a1l a1c), (.slice a2a a2l a2c), (.int .i64 a3)] h Q = P_ref23_rest a0 a1a a1l a1c a2a a2l a2c a3 h Q := by kernel_rfl
theorem P_ref23_rest_of {a0 : Array Value} {a1a : Option Addr} {a1l : Nat} {a1c : Nat} {a2a : Option Addr} {a2l : Nat} {a2c : Nat} {a3 : Int} {h : PH} {Q : Value → PH → Prop} (x : P_ref23_rest a0 a1a a1l a1c a2a a2l a2c a3 h Q) : Meets Try.prog 63 #[(.agg a0), (.slice a1a a1l a1c), (.slice a2a a2l a2c), (.int .i64 a3)] h Q :=
  spec_of Try.func63 mix (by kernel_rfl) ((P_ref23_rest_eq a0 a1a a1l a1c a2a a2l a2c a3 h Q).symm ▸ x)
/-- futtock/futtockref14.Apply -/
def A_ref14_Apply : Ann := .seq (.leaf) (.seq (.seq (.leaf) (.cond [] (.seq (.leaf) (.leaf)) (.leaf))) (.seq (.leaf) (.seq (.seq (.leaf) (.block [(7, .bool)] (.seq (.seq (.leaf) (.cond [(46, .bool)] (.leaf) (.leaf))) (.cond [(7, .bool)] (.seq (.leaf) (.leaf)) (.seq (.leaf) (.cond [(7, .bool)] (.seq (.draw [(0, .flt), (1, .flt), (2, .flt), (3, .flt), (4, .flt), (5, .flt), (6, .flt), (7, .flt), (8, .flt), (9, .flt)]) (.seq (.leaf) (.seq (.leaf) (.cond [] (.seq (.leaf) (.seq (.leaf) (.cond [] (.leaf) (.leaf)))) (.leaf))))) (.seq (.seq (.leaf) (.cond [(116, .bool)] (.leaf) (.seq (.leaf) (.cond [(116, .bool)] (.leaf) (.leaf))))) (.cond [(7, .bool)] (.seq (.seq (.leaf) (.cond [(7, .bool)] (.leaf) (.leaf))) (.leaf)) (.seq (.seq (.leaf) (.cond [(140, .bool)] (.leaf) (.seq (.leaf) (.cond [(140, .bool)] (.leaf) (.leaf))))) (.cond [(7, .bool)] (.leaf) (.seq (.seq (.leaf) (.cond [(150, .bool)] (.leaf) (.seq (.leaf) (.cond [(150, .bool)] (.leaf) (.leaf))))) (.cond [(7, .bool)] (.leaf) (.leaf))))))))))))) (.seq (.seq (.leaf) (.cond [] (.seq (.leaf) (.leaf)) (.leaf))) (.seq (.leaf) (.leaf))))))
def P_ref14_Apply (a0 : Array Value) (a1_0 : Int) (a1_1 : Int) (a1_2 : Int) (a1_3 : Int) (a1_4 : Int) (h : PH) (Q : Value → PH → Prop) : Prop :=
 xNew h (.cells a0 77 (0, 0)) fun b2 h_1 =>
 xNew h_1 (.cells #[(.int .i64 a1_0), (.int .i64 a1_1), (.int .i64 a1_2), (.int .i64 a1_3), (.int .i64 a1_4)] 29 (0, 0)) fun b3 h_2 =>
 xNew h_2 (.cells (zeroC Try.prog 77) 77 (0, 0)) fun b4 h_3 =>
 oBig h_3 (⟨b2, 0, none⟩ : Addr) 227 fun x9 =>
 oI .i64 (h_3.cell ((⟨b3, 0, none⟩ : Addr).add 1)) fun x11 =>
 Meets Try.prog 91 #[(.agg x9), (.int .i64 x11)] h_3 fun v12 h_4 =>
 oB (some v12) fun x12 =>
 xSc (!x12) false (fun J_1 =>
 oI .i64 (h_4.cell ((⟨b3, 0, none⟩ : Addr).add 2)) fun x16 =>
 J_1 (decide ((x16 : Int) < 0)) h_4)
 (fun r18 h_5 =>
 xSc r18 false (fun J_2 =>
 oI .i64 (h_5.cell ((⟨b3, 0, none⟩ : Addr).add 2)) fun x21 =>
 oI .i64 (h_5.cell ((⟨b2, 0, none⟩ : Addr).add 1)) fun x23 =>
 J_2 (decide ((x21 : Int) ≥ x23)) h_5)
 (fun r25 h_6 =>
 xSc r25 false (fun J_3 =>
 oI .i64 (h_6.cell ((⟨b3, 0, none⟩ : Addr).add 0)) fun x28 =>
 xSc (x28 != 5) true (fun J_4 =>
 oI .i64 (h_6.cell ((⟨b3, 0, none⟩ : Addr).add 0)) fun x32 =>
 J_4 (x32 != 6) h_6)
 (fun r34 h_7 =>
 xSc r34 true (fun J_5 =>
 oBig h_7 (⟨b2, 0, none⟩ : Addr) 227 fun x36 =>
 oI .i64 (h_7.cell ((⟨b3, 0, none⟩ : Addr).add 1)) fun x38 =>
 Meets Try.prog 92 #[(.agg x36), (.int .i64 x38)] h_7 fun v39 h_8 =>
 oB (some v39) fun x39 =>
 J_5 x39 h_8)
 (fun r40 h_9 =>
 J_3 r40 h_9) h_7) h_6)
 (fun r41 h_10 =>
 xIte r41 (fun J_6 =>
 oBig h_10 (⟨b2, 0, none⟩ : Addr) 227 fun x42 =>
 xSt 227 h_10 (⟨b4, 0, none⟩ : Addr) (Array.toList x42) fun h_11 =>
 oBig h_11 (⟨b4, 0, none⟩ : Addr) 227 fun y4 =>
 Q (.tuple #[(.agg y4), (.int .i64 15)]) h_11)
 (fun J_6 =>
 J_6 h_10)
 (fun  (h_12 : PH) =>
 oBig h_12 (⟨b2, 0, none⟩ : Addr) 227 fun x43 =>
 xNew h_12 (.cells (zeroC Try.prog 77) 77 (0, 0)) fun b6 h_13 =>
 xSt 227 h_13 (⟨b6, 0, none⟩ : Addr) (Array.toList x43) fun h_14 =>
 oI .i64 (h_14.cell ((⟨b3, 0, none⟩ : Addr).add 0)) fun x45 =>
 xBlk (fun J_7 =>
 xIte (x45 == 1) (fun J_8 =>
 J_8 (x45 == 1) h_14)
 (fun J_8 =>
 J_8 (x45 == 2) h_14)
 (fun (x46 : Bool) (h_15 : PH) =>
 xIte x46 (fun J_9 =>
 oBig h_15 (⟨b2, 0, none⟩ : Addr) 227 fun x50 =>
 oI .i64 (h_15.cell ((⟨b3, 0, none⟩ : Addr).add 0)) fun x51_0 =>
 oI .i64 (h_15.cell ((⟨b3, 0, none⟩ : Addr).add 1)) fun x51_1 =>
 oI .i64 (h_15.cell ((⟨b3, 0, none⟩ : Addr).add 2)) fun x51_2 =>
 oI .i64 (h_15.cell ((⟨b3, 0, none⟩ : Addr).add 3)) fun x51_3 =>
 oI .i64 (h_15.cell ((⟨b3, 0, none⟩ : Addr).add 4)) fun x51_4 =>
 Meets Try.prog 93 #[(.agg x50), (.agg #[(.int .i64 x51_0), (.int .i64 x51_1), (.int .i64 x51_2), (.int .i64 x51_3), (.int .i64 x51_4)])] h_15 fun v52 h_16 =>
 oTup v52 2 fun x52cs =>
 oIx x52cs[0]? fun x52w =>
 oAgg x52w 227 fun x52_0cs =>
 oIx x52cs[1]? fun x52w_1 =>
 oB (some x52w_1) fun x52_1 =>
 oAgg (.agg x52_0cs) 227 fun x53cs =>
 oB (some (.bool x52_1)) fun x54 =>
 xSt 227 h_16 (⟨b6, 0, none⟩ : Addr) (Array.toList x53cs) fun h_17 =>
 xSc x54 true (fun J_10 =>
 oI .i64 (h_17.cell ((⟨b3, 0, none⟩ : Addr).add 3)) fun x58 =>
 J_10 (x58 == 0) h_17)
 (fun r60 h_18 =>
 J_9 r60 h_18) h_17)
 (fun J_9 =>
 xIte (x45 == 3) (fun J_11 =>
 xDraw h_15 fun hs_1 =>
 oI .i64 (hs_1.cell ((⟨b3, 0, none⟩ : Addr).add 2)) fun x64 =>
 xIdxA ((⟨b2, 0, none⟩ : Addr).add 3) 8 x64 1 fun x66 =>
 oI .i64 (hs_1.cell x66) fun x67 =>
 oI .i64 (hs_1.cell ((⟨b3, 0, none⟩ : Addr).add 1)) fun x69 =>
 oI .i64 (h_15.cell ((⟨b3, 0, none⟩ : Addr).add 3)) fun x73 =>
 xSc (x73 == 0) true (fun J_12 =>
 oI .i64 (h_15.cell ((⟨b3, 0, none⟩ : Addr).add 4)) fun x77 =>
 xSc (x77 == 0) true (fun J_13 =>
 J_13 (x67 == (IntKind.wrap .i64 (x69 + 1))) h_15)
 (fun r81 h_19 =>
 xSc r81 false (fun J_14 =>
 oI .i64 (h_19.cell ((⟨b3, 0, none⟩ : Addr).add 4)) fun x84 =>
 xSc (x84 == 9) true (fun J_15 =>
 J_15 (!(x67 == (IntKind.wrap .i64 (x69 + 1)))) h_19)
 (fun r89 h_20 =>
 J_14 r89 h_20) h_19)
 (fun r90 h_21 =>
 J_12 r90 h_21) h_19) h_15)
 (fun r91 h_22 =>
 xSc r91 true (fun J_16 =>
 oI .i64 (h_22.cell ((⟨b3, 0, none⟩ : Addr).add 4)) fun x95 =>
 J_16 (x95 == 0) h_22)
 (fun r97 h_23 =>
 xIte r97 (fun J_17 =>
 oI .i64 (h_23.cell ((⟨b3, 0, none⟩ : Addr).add 2)) fun x99 =>
 xIdxA ((⟨b6, 0, none⟩ : Addr).add 11) 8 x99 1 fun x101 =>
 oI .i64 (h_23.cell x101) fun x102 =>
 xIdxA ((⟨b6, 0, none⟩ : Addr).add 11) 8 x99 1 fun x105 =>
 xSt 1 h_23 x105 [(.int .i64 (IntKind.wrap .i64 (x102 - 1)))] fun h_24 =>
 oI .i64 (h_24.cell ((⟨b3, 0, none⟩ : Addr).add 2)) fun x107 =>
 xIdxA ((⟨b6, 0, none⟩ : Addr).add 11) 8 x107 1 fun x109 =>
 oI .i64 (h_24.cell x109) fun x110 =>
 xIte (x110 == 0) (fun J_18 =>
 oI .i64 (h_24.cell ((⟨b3, 0, none⟩ : Addr).add 2)) fun x113 =>
 xIdxA ((⟨b6, 0, none⟩ : Addr).add 3) 8 x113 1 fun x115 =>
 xSt 1 h_24 x115 [(.int .i64 0)] fun h_25 =>
 J_18 h_25)
 (fun J_18 =>
 J_18 h_24)
 (fun  (h_26 : PH) =>
 J_17 h_26))
 (fun J_17 =>
 J_17 h_23)
 (fun  (h_27 : PH) =>
 J_11 r91 h_27)) h_22) h_15)
 (fun J_11 =>
 xIte (x45 == 4) (fun J_19 =>
 J_19 (x45 == 4) h_15)
 (fun J_19 =>
 xIte (x45 == 5) (fun J_20 =>
 J_20 (x45 == 5) h_15)
 (fun J_20 =>
 J_20 (x45 == 6) h_15)
 (fun (x116 : Bool) (h_28 : PH) =>
 J_19 x116 h_28))
 (fun (x116_1 : Bool) (h_29 : PH) =>
 xIte x116_1 (fun J_21 =>
 oI .i64 (h_29.cell ((⟨b3, 0, none⟩ : Addr).add 4)) fun x121 =>
 xSc (decide ((x121 : Int) ≥ 0)) true (fun J_22 =>
 oI .i64 (h_29.cell ((⟨b3, 0, none⟩ : Addr).add 4)) fun x125 =>
 J_22 (decide ((x125 : Int) < 100)) h_29)
 (fun r127 h_30 =>
 xIte r127 (fun J_23 =>
 oBig h_30 (⟨b2, 0, none⟩ : Addr) 227 fun x129 =>
 oI .i64 (h_30.cell ((⟨b3, 0, none⟩ : Addr).add 0)) fun x130_0 =>
 oI .i64 (h_30.cell ((⟨b3, 0, none⟩ : Addr).add 1)) fun x130_1 =>
 oI .i64 (h_30.cell ((⟨b3, 0, none⟩ : Addr).add 2)) fun x130_2 =>
 oI .i64 (h_30.cell ((⟨b3, 0, none⟩ : Addr).add 3)) fun x130_3 =>
 oI .i64 (h_30.cell ((⟨b3, 0, none⟩ : Addr).add 4)) fun x130_4 =>
 Meets Try.prog 94 #[(.agg x129), (.agg #[(.int .i64 x130_0), (.int .i64 x130_1), (.int .i64 x130_2), (.int .i64 x130_3), (.int .i64 x130_4)])] h_30 fun v131 h_31 =>
 oTup v131 2 fun x131cs =>
 oIx x131cs[0]? fun x131w =>
 oAgg x131w 227 fun x131_0cs =>
 oIx x131cs[1]? fun x131w_1 =>
 oB (some x131w_1) fun x131_1 =>
 oAgg (.agg x131_0cs) 227 fun x132cs =>
 oB (some (.bool x131_1)) fun x133 =>
 xSt 227 h_31 (⟨b6, 0, none⟩ : Addr) (Array.toList x132cs) fun h_32 =>
 J_23 x133 h_32)
 (fun J_23 =>
 J_23 false h_30)
 (fun (x7 : Bool) (h_33 : PH) =>
 xSc x7 true (fun J_24 =>
 oI .i64 (h_33.cell ((⟨b3, 0, none⟩ : Addr).add 3)) fun x137 =>
 J_24 (x137 == 0) h_33)
 (fun r139 h_34 =>
 J_21 r139 h_34) h_33)) h_29)
 (fun J_21 =>
 xIte (x45 == 7) (fun J_25 =>
 J_25 (x45 == 7) h_29)
 (fun J_25 =>
 xIte (x45 == 8) (fun J_26 =>
 J_26 (x45 == 8) h_29)
 (fun J_26 =>
 J_26 (x45 == 9) h_29)
 (fun (x140 : Bool) (h_35 : PH) =>
 J_25 x140 h_35))
 (fun (x140_1 : Bool) (h_36 : PH) =>
 xIte x140_1 (fun J_27 =>
 oBig h_36 (⟨b2, 0, none⟩ : Addr) 227 fun x145 =>
 oI .i64 (h_36.cell ((⟨b3, 0, none⟩ : Addr).add 0)) fun x146_0 =>
 oI .i64 (h_36.cell ((⟨b3, 0, none⟩ : Addr).add 1)) fun x146_1 =>
 oI .i64 (h_36.cell ((⟨b3, 0, none⟩ : Addr).add 2)) fun x146_2 =>
 oI .i64 (h_36.cell ((⟨b3, 0, none⟩ : Addr).add 3)) fun x146_3 =>
 oI .i64 (h_36.cell ((⟨b3, 0, none⟩ : Addr).add 4)) fun x146_4 =>
 Meets Try.prog 95 #[(.agg x145), (.agg #[(.int .i64 x146_0), (.int .i64 x146_1), (.int .i64 x146_2), (.int .i64 x146_3), (.int .i64 x146_4)])] h_36 fun v147 h_37 =>
 oTup v147 2 fun x147cs =>
 oIx x147cs[0]? fun x147w =>
 oAgg x147w 227 fun x147_0cs =>
 oIx x147cs[1]? fun x147w_1 =>
 oB (some x147w_1) fun x147_1 =>
 oAgg (.agg x147_0cs) 227 fun x148cs =>
 oB (some (.bool x147_1)) fun x149 =>
 xSt 227 h_37 (⟨b6, 0, none⟩ : Addr) (Array.toList x148cs) fun h_38 =>
 J_27 x149 h_38)
 (fun J_27 =>
 xIte (x45 == 10) (fun J_28 =>
 J_28 (x45 == 10) h_36)
 (fun J_28 =>
 xIte (x45 == 11) (fun J_29 =>
 J_29 (x45 == 11) h_36)
 (fun J_29 =>
 J_29 (x45 == 12) h_36)
 (fun (x150 : Bool) (h_39 : PH) =>
 J_28 x150 h_39))
 (fun (x150_1 : Bool) (h_40 : PH) =>
 xIte x150_1 (fun J_30 =>
 oBig h_40 (⟨b2, 0, none⟩ : Addr) 227 fun x155 =>
 oI .i64 (h_40.cell ((⟨b3, 0, none⟩ : Addr).add 0)) fun x156_0 =>
 oI .i64 (h_40.cell ((⟨b3, 0, none⟩ : Addr).add 1)) fun x156_1 =>
 oI .i64 (h_40.cell ((⟨b3, 0, none⟩ : Addr).add 2)) fun x156_2 =>
 oI .i64 (h_40.cell ((⟨b3, 0, none⟩ : Addr).add 3)) fun x156_3 =>
 oI .i64 (h_40.cell ((⟨b3, 0, none⟩ : Addr).add 4)) fun x156_4 =>
 Meets Try.prog 96 #[(.agg x155), (.agg #[(.int .i64 x156_0), (.int .i64 x156_1), (.int .i64 x156_2), (.int .i64 x156_3), (.int .i64 x156_4)])] h_40 fun v157 h_41 =>
 oTup v157 2 fun x157cs =>
 oIx x157cs[0]? fun x157w =>
 oAgg x157w 227 fun x157_0cs =>
 oIx x157cs[1]? fun x157w_1 =>
 oB (some x157w_1) fun x157_1 =>
 oAgg (.agg x157_0cs) 227 fun x158cs =>
 oB (some (.bool x157_1)) fun x159 =>
 xSt 227 h_41 (⟨b6, 0, none⟩ : Addr) (Array.toList x158cs) fun h_42 =>
 J_30 x159 h_42)
 (fun J_30 =>
 J_30 false h_40)
 (fun (x7_1 : Bool) (h_43 : PH) =>
 J_27 x7_1 h_43)))
 (fun (x7_2 : Bool) (h_44 : PH) =>
 J_21 x7_2 h_44)))
 (fun (x7_3 : Bool) (h_45 : PH) =>
 J_11 x7_3 h_45)))
 (fun (x7_4 : Bool) (h_46 : PH) =>
 J_9 x7_4 h_46))
 (fun (x7_5 : Bool) (h_47 : PH) =>
 J_7 x7_5 h_47)))
 (fun (x7_6 : Bool) (h_48 : PH) =>
 xIte (!x7_6) (fun J_31 =>
 oBig h_48 (⟨b2, 0, none⟩ : Addr) 227 fun x162 =>
 xSt 227 h_48 (⟨b4, 0, none⟩ : Addr) (Array.toList x162) fun h_49 =>
 oBig h_49 (⟨b4, 0, none⟩ : Addr) 227 fun y4_1 =>
 Q (.tuple #[(.agg y4_1), (.int .i64 15)]) h_49)
 (fun J_31 =>
 J_31 h_48)
 (fun  (h_50 : PH) =>
 oBig h_50 (⟨b6, 0, none⟩ : Addr) 227 fun x163 =>
 xSt 227 h_50 (⟨b4, 0, none⟩ : Addr) (Array.toList x163) fun h_51 =>
 oBig h_51 (⟨b4, 0, none⟩ : Addr) 227 fun y4_2 =>
 Q (.tuple #[(.agg y4_2), (.int .i64 0)]) h_51)))) h_6) h_5) h_4
theorem P_ref14_Apply_eq (a0 : Array Value) (a1_0 : Int) (a1_1 : Int) (a1_2 : Int) (a1_3 : Int) (a1_4 : Int) (h : PH) (Q : Value → PH → Prop) : dFn Try.prog Try.f64 A_ref14_Apply #[(.agg a0), (.agg #[(.int .i64 a1_0), (.int .i64 a1_1), (.int .i64 a1_2), (.int .i64 a1_3), (.int .i64 a1_4)])] h Q = P_ref14_Apply a0 a1_0 a1_1 a1_2 a1_3 a1_4 h Q := by kernel_rfl
theorem P_ref14_Apply_of {a0 : Array Value} {a1_0 : Int} {a1_1 : Int} {a1_2 : Int} {a1_3 : Int} {a1_4 : Int} {h : PH} {Q : Value → PH → Prop} (x : P_ref14_Apply a0 a1_0 a1_1 a1_2 a1_3 a1_4 h Q) : Meets Try.prog 64 #[(.agg a0), (.agg #[(.int .i64 a1_0), (.int .i64 a1_1), (.int .i64 a1_2), (.int .i64 a1_3), (.int .i64 a1_4)])] h Q :=
  spec_of Try.func64 mix (by kernel_rfl) ((P_ref14_Apply_eq a0 a1_0 a1_1 a1_2 a1_3 a1_4 h Q).symm ▸ x)
/-- futtock/futtockref23.free -/
def A_ref23_free : Ann := .seq (.leaf) (.seq (.seq (.leaf) (.block [] (.loop [(7, (.int .i64))] (.seq (.seq (.leaf) (.cond [] (.leaf) (.leaf))) (.seq (.block [] (.seq (.draw [(0, .flt), (1, .flt), (2, .flt), (3, .flt), (4, .flt), (5, .flt), (6, .flt), (7, .flt), (8, .flt), (9, .flt), (10, .flt), (11, .flt), (12, .flt), (13, .flt), (14, .flt), (15, .flt), (16, .flt)]) (.cond [] (.seq (.leaf) (.leaf)) (.leaf)))) (.leaf)))))) (.seq (.leaf) (.leaf)))
def P_ref23_free (a0a : Option Addr) (a0l : Nat) (a0c : Nat) (a1a : Option Addr) (a1l : Nat) (a1c : Nat) (a2 : Int) (h : PH) (Q : Value → PH → Prop) : Prop :=
 xBlk (fun J_1 =>
 ∃ n, xLoopN (fun _ _ => False) (fun J_2 =>
 (fun (x7 : Int) (h_1 : PH) =>
 xIte (decide ((x7 : Int) < ((a0l : Nat) : Int))) (fun J_3 =>
 J_3 h_1)
 (fun J_3 =>
 J_1 h_1)
 (fun  (h_2 : PH) =>
 xBlk (fun J_4 =>
 xDraw h_2 fun hs_1 =>
 xIdx a1a a1l x7 1 fun x16 =>
 oB (hs_1.cell x16) fun x17 =>
 xSc x17 true (fun J_5 =>
 xIdx a0a a0l x7 7 fun x21 =>
 oI .i64 (hs_1.cell (x21.add 6)) fun x23 =>
 xIdx a0a a0l a2 7 fun x26 =>
 oI .i64 (hs_1.cell (x26.add 5)) fun x28 =>
 J_5 (decide ((x23 : Int) < x28)) h_2)
 (fun r30 h_3 =>
 xIte r30 (fun J_6 =>
 Q (.bool false) h_3)
 (fun J_6 =>
 J_6 h_3)
 (fun  (h_4 : PH) =>
 J_4 h_4)) h_2)
 (fun  (h_5 : PH) =>
 J_2 (IntKind.wrap .i64 (x7 + 1)) h_5)))) n 0 h)
 (fun  (h_6 : PH) =>
 xIdx a1a a1l a2 1 fun x33 =>
 oB (h_6.cell x33) fun x34 =>
 Q (.bool x34) h_6)
theorem P_ref23_free_eq (a0a : Option Addr) (a0l : Nat) (a0c : Nat) (a1a : Option Addr) (a1l : Nat) (a1c : Nat) (a2 : Int) (h : PH) (Q : Value → PH → Prop) : dFn Try.prog Try.f90 A_ref23_free #[(.slice a0a a0l a0c), (.slice a1a a1l a1c), (.int .i64 a2)] h Q = P_ref23_free a0a a0l a0c a1a a1l a1c a2 h Q := by kernel_rfl
theorem P_ref23_free_of {a0a : Option Addr} {a0l : Nat} {a0c : Nat} {a1a : Option Addr} {a1l : Nat} {a1c : Nat} {a2 : Int} {h : PH} {Q : Value → PH → Prop} (x : P_ref23_free a0a a0l a0c a1a a1l a1c a2 h Q) : Meets Try.prog 90 #[(.slice a0a a0l a0c), (.slice a1a a1l a1c), (.int .i64 a2)] h Q :=
  spec_of Try.func90 mix (by kernel_rfl) ((P_ref23_free_eq a0a a0l a0c a1a a1l a1c a2 h Q).symm ▸ x)
/-- (futtock/futtockref14.Model).is -/
def A_ref14_Model_is : Ann := .seq (.leaf) (.seq (.leaf) (.leaf))
def P_ref14_Model_is (a0 : Array Value) (a1 : Int) (h : PH) (Q : Value → PH → Prop) : Prop :=
 xNew h (.cells a0 77 (0, 0)) fun b2 h_1 =>
 xSc (decide ((a1 : Int) ≥ 0)) true (fun J_1 =>
 oI .i64 (h_1.cell ((⟨b2, 0, none⟩ : Addr).add 0)) fun x10 =>
 J_1 (decide ((a1 : Int) < x10)) h_1)
 (fun r12 h_2 =>
 Q (.bool r12) h_2) h_1
theorem P_ref14_Model_is_eq (a0 : Array Value) (a1 : Int) (h : PH) (Q : Value → PH → Prop) : dFn Try.prog Try.f91 A_ref14_Model_is #[(.agg a0), (.int .i64 a1)] h Q = P_ref14_Model_is a0 a1 h Q := by kernel_rfl
theorem P_ref14_Model_is_of {a0 : Array Value} {a1 : Int} {h : PH} {Q : Value → PH → Prop} (x : P_ref14_Model_is a0 a1 h Q) : Meets Try.prog 91 #[(.agg a0), (.int .i64 a1)] h Q :=
  spec_of Try.func91 mix (by kernel_rfl) ((P_ref14_Model_is_eq a0 a1 h Q).symm ▸ x)
/-- (futtock/futtockref14.Model).gone -/
def A_ref14_Model_gone : Ann := .seq (.leaf) (.seq (.seq (.leaf) (.block [] (.loop [(5, (.int .i64))] (.seq (.seq (.leaf) (.cond [] (.leaf) (.leaf))) (.seq (.block [] (.seq (.leaf) (.cond [] (.seq (.leaf) (.leaf)) (.leaf)))) (.leaf)))))) (.seq (.leaf) (.leaf)))
def P_ref14_Model_gone (a0 : Array Value) (a1 : Int) (h : PH) (Q : Value → PH → Prop) : Prop :=
 xNew h (.cells a0 77 (0, 0)) fun b2 h_1 =>
 xBlk (fun J_1 =>
 ∃ n, xLoopN (fun _ _ => False) (fun J_2 =>
 (fun (x5 : Int) (h_2 : PH) =>
 oI .i64 (h_2.cell ((⟨b2, 0, none⟩ : Addr).add 1)) fun x8 =>
 xIte (decide ((x5 : Int) < x8)) (fun J_3 =>
 J_3 h_2)
 (fun J_3 =>
 J_1 h_2)
 (fun  (h_3 : PH) =>
 xBlk (fun J_4 =>
 xIdxA ((⟨b2, 0, none⟩ : Addr).add 35) 8 x5 24 fun x15 =>
 xIdxA x15 8 a1 3 fun x16 =>
 oI .i64 (h_3.cell (x16.add 0)) fun x18 =>
 xSc (decide ((x18 : Int) > 0)) false (fun J_5 =>
 xIdxA ((⟨b2, 0, none⟩ : Addr).add 35) 8 x5 24 fun x24 =>
 xIdxA x24 8 a1 3 fun x25 =>
 oI .i64 (h_3.cell (x25.add 1)) fun x27 =>
 J_5 (decide ((x27 : Int) > 0)) h_3)
 (fun r29 h_4 =>
 xIte r29 (fun J_6 =>
 Q (.bool true) h_4)
 (fun J_6 =>
 J_6 h_4)
 (fun  (h_5 : PH) =>
 J_4 h_5)) h_3)
 (fun  (h_6 : PH) =>
 J_2 (IntKind.wrap .i64 (x5 + 1)) h_6)))) n 0 h_1)
 (fun  (h_7 : PH) =>
 Q (.bool false) h_7)
theorem P_ref14_Model_gone_eq (a0 : Array Value) (a1 : Int) (h : PH) (Q : Value → PH → Prop) : dFn Try.prog Try.f92 A_ref14_Model_gone #[(.agg a0), (.int .i64 a1)] h Q = P_ref14_Model_gone a0 a1 h Q := by kernel_rfl
theorem P_ref14_Model_gone_of {a0 : Array Value} {a1 : Int} {h : PH} {Q : Value → PH → Prop} (x : P_ref14_Model_gone a0 a1 h Q) : Meets Try.prog 92 #[(.agg a0), (.int .i64 a1)] h Q :=
  spec_of Try.func92 mix (by kernel_rfl) ((P_ref14_Model_gone_eq a0 a1 h Q).symm ▸ x)
/-- (futtock/futtockref14.Model).enter -/
def A_ref14_Model_enter : Ann := .seq (.leaf) (.seq (.draw [(0, .flt), (1, .flt), (2, .flt), (3, .flt), (4, .flt), (5, .flt), (6, .flt)]) (.seq (.leaf) (.seq (.seq (.leaf) (.block [] (.seq (.leaf) (.cond [] (.seq (.seq (.draw [(0, .flt), (1, .flt), (2, .flt), (3, .flt), (4, .flt), (5, .flt), (6, .flt), (7, .flt), (8, .flt), (9, .flt)]) (.cond [] (.seq (.leaf) (.leaf)) (.leaf))) (.seq (.leaf) (.seq (.leaf) (.seq (.leaf) (.leaf))))) (.seq (.leaf) (.cond [] (.seq (.draw [(0, .flt), (1, .flt), (2, .flt), (3, .flt), (4, .flt), (5, .flt), (6, .flt), (7, .flt), (8, .flt), (9, .flt), (10, .flt), (11, .flt), (12, .flt), (13, .flt), (14, .flt), (15, .flt), (16, .eff), (17, .flt)]) (.leaf)) (.seq (.leaf) (.cond [] (.seq (.leaf) (.leaf)) (.seq (.leaf) (.cond [] (.seq (.leaf) (.leaf)) (.leaf))))))))))) (.seq (.leaf) (.leaf)))))
def P_ref14_Model_enter (a0 : Array Value) (a1_0 : Int) (a1_1 : Int) (a1_2 : Int) (a1_3 : Int) (a1_4 : Int) (h : PH) (Q : Value → PH → Prop) : Prop :=
 xNew h (.cells a0 77 (0, 0)) fun b2 h_1 =>
 xNew h_1 (.cells #[(.int .i64 a1_0), (.int .i64 a1_1), (.int .i64 a1_2), (.int .i64 a1_3), (.int .i64 a1_4)] 29 (0, 0)) fun b3 h_2 =>
 xNew h_2 (.cells (zeroC Try.prog 77) 77 (0, 0)) fun b4 h_3 =>
 xDraw h_3 fun hs_1 =>
 oI .i64 (hs_1.cell ((⟨b3, 0, none⟩ : Addr).add 1)) fun x10 =>
 oI .i64 (hs_1.cell ((⟨b3, 0, none⟩ : Addr).add 2)) fun x13 =>
 xIdxA ((⟨b2, 0, none⟩ : Addr).add 3) 8 x13 1 fun x16 =>
 oI .i64 (h_3.cell x16) fun x17 =>
 xSc (x17 != 0) true (fun J_1 =>
 xIdxA ((⟨b2, 0, none⟩ : Addr).add 3) 8 x13 1 fun x22 =>
 oI .i64 (h_3.cell x22) fun x23 =>
 J_1 (x23 != (IntKind.wrap .i64 (x10 + 1))) h_3)
 (fun r26 h_4 =>
 oI .i64 (h_4.cell ((⟨b3, 0, none⟩ : Addr).add 4)) fun x28 =>
 xBlk (fun J_2 =>
 xIte (x28 == 0) (fun J_3 =>
 xDraw h_4 fun hs_2 =>
 xSc r26 false (fun J_4 =>
 xIdxA ((⟨b2, 0, none⟩ : Addr).add 11) 8 x13 1 fun x35 =>
 oI .i64 (hs_2.cell x35) fun x36 =>
 oI .i64 (hs_2.cell ((⟨b2, 0, none⟩ : Addr).add 2)) fun x38 =>
 J_4 (decide ((x36 : Int) ≥ x38)) h_4)
 (fun r40 h_5 =>
 xIte r40 (fun J_5 =>
 oBig h_5 (⟨b2, 0, none⟩ : Addr) 227 fun x41 =>
 xSt 227 h_5 (⟨b4, 0, none⟩ : Addr) (Array.toList x41) fun h_6 =>
 oBig h_6 (⟨b4, 0, none⟩ : Addr) 227 fun y4 =>
 Q (.tuple #[(.agg y4), (.bool false)]) h_6)
 (fun J_5 =>
 J_5 h_5)
 (fun  (h_7 : PH) =>
 xIdxA ((⟨b2, 0, none⟩ : Addr).add 3) 8 x13 1 fun x45 =>
 xSt 1 h_7 x45 [(.int .i64 (IntKind.wrap .i64 (x10 + 1)))] fun h_8 =>
 xIdxA ((⟨b2, 0, none⟩ : Addr).add 11) 8 x13 1 fun x48 =>
 oI .i64 (h_8.cell x48) fun x49 =>
 xIdxA ((⟨b2, 0, none⟩ : Addr).add 11) 8 x13 1 fun x52 =>
 xSt 1 h_8 x52 [(.int .i64 (IntKind.wrap .i64 (x49 + 1)))] fun h_9 =>
 oBig h_9 (⟨b2, 0, none⟩ : Addr) 227 fun x53 =>
 xSt 227 h_9 (⟨b4, 0, none⟩ : Addr) (Array.toList x53) fun h_10 =>
 oBig h_10 (⟨b4, 0, none⟩ : Addr) 227 fun y4_1 =>
 Q (.tuple #[(.agg y4_1), (.bool true)]) h_10)) h_4)
 (fun J_3 =>
 xIte (x28 == 10) (fun J_6 =>
 xDraw h_4 fun hs_3 =>
 oBig hs_3 (⟨b2, 0, none⟩ : Addr) 227 fun x56 =>
 xIdxA ((⟨b2, 0, none⟩ : Addr).add 3) 8 x13 1 fun x59 =>
 oI .i64 (hs_3.cell x59) fun x60 =>
 xSc (x60 == (IntKind.wrap .i64 (x10 + 1))) true (fun J_7 =>
 xIdxA ((⟨b2, 0, none⟩ : Addr).add 11) 8 x13 1 fun x66 =>
 oI .i64 (hs_3.cell x66) fun x67 =>
 oI .i64 (hs_3.cell ((⟨b2, 0, none⟩ : Addr).add 2)) fun x69 =>
 J_7 (decide ((x67 : Int) ≥ x69)) h_4)
 (fun r71 h_11 =>
 xSt 227 h_11 (⟨b4, 0, none⟩ : Addr) (Array.toList x56) fun h_12 =>
 PH.le hs_3 h_12 ∧
 oBig h_12 (⟨b4, 0, none⟩ : Addr) 227 fun y4_2 =>
 Q (.tuple #[(.agg y4_2), (.bool r71)]) h_12) h_4)
 (fun J_6 =>
 xIte (x28 == 11) (fun J_8 =>
 oBig h_4 (⟨b2, 0, none⟩ : Addr) 227 fun x74 =>
 oI .i64 (h_4.cell ((⟨b3, 0, none⟩ : Addr).add 0)) fun x76 =>
 xSc (x76 == 1) true (fun J_9 =>
 J_9 r26 h_4)
 (fun r80 h_13 =>
 xSt 227 h_13 (⟨b4, 0, none⟩ : Addr) (Array.toList x74) fun h_14 =>
 oBig h_14 (⟨b4, 0, none⟩ : Addr) 227 fun y4_3 =>
 Q (.tuple #[(.agg y4_3), (.bool r80)]) h_14) h_4)
 (fun J_8 =>
 xIte (x28 == 14) (fun J_10 =>
 oBig h_4 (⟨b2, 0, none⟩ : Addr) 227 fun x83 =>
 oI .i64 (h_4.cell ((⟨b3, 0, none⟩ : Addr).add 0)) fun x85 =>
 xSc (x85 == 2) true (fun J_11 =>
 J_11 r26 h_4)
 (fun r89 h_15 =>
 xSt 227 h_15 (⟨b4, 0, none⟩ : Addr) (Array.toList x83) fun h_16 =>
 oBig h_16 (⟨b4, 0, none⟩ : Addr) 227 fun y4_4 =>
 Q (.tuple #[(.agg y4_4), (.bool r89)]) h_16) h_4)
 (fun J_10 =>
 J_10 h_4)
 (fun  (h_17 : PH) =>
 J_8 h_17))
 (fun  (h_18 : PH) =>
 J_6 h_18))
 (fun  (h_19 : PH) =>
 J_3 h_19))
 (fun  (h_20 : PH) =>
 J_2 h_20))
 (fun  (h_21 : PH) =>
 oBig h_21 (⟨b2, 0, none⟩ : Addr) 227 fun x90 =>
 xSt 227 h_21 (⟨b4, 0, none⟩ : Addr) (Array.toList x90) fun h_22 =>
 oBig h_22 (⟨b4, 0, none⟩ : Addr) 227 fun y4_5 =>
 Q (.tuple #[(.agg y4_5), (.bool false)]) h_22)) h_3
theorem P_ref14_Model_enter_eq (a0 : Array Value) (a1_0 : Int) (a1_1 : Int) (a1_2 : Int) (a1_3 : Int) (a1_4 : Int) (h : PH) (Q : Value → PH → Prop) : dFn Try.prog Try.f93 A_ref14_Model_enter #[(.agg a0), (.agg #[(.int .i64 a1_0), (.int .i64 a1_1), (.int .i64 a1_2), (.int .i64 a1_3), (.int .i64 a1_4)])] h Q = P_ref14_Model_enter a0 a1_0 a1_1 a1_2 a1_3 a1_4 h Q := by kernel_rfl
theorem P_ref14_Model_enter_of {a0 : Array Value} {a1_0 : Int} {a1_1 : Int} {a1_2 : Int} {a1_3 : Int} {a1_4 : Int} {h : PH} {Q : Value → PH → Prop} (x : P_ref14_Model_enter a0 a1_0 a1_1 a1_2 a1_3 a1_4 h Q) : Meets Try.prog 93 #[(.agg a0), (.agg #[(.int .i64 a1_0), (.int .i64 a1_1), (.int .i64 a1_2), (.int .i64 a1_3), (.int .i64 a1_4)])] h Q :=
  spec_of Try.func93 mix (by kernel_rfl) ((P_ref14_Model_enter_eq a0 a1_0 a1_1 a1_2 a1_3 a1_4 h Q).symm ▸ x)
/-- (futtock/futtockref14.Model).wait -/
def A_ref14_Model_wait : Ann := .seq (.leaf) (.seq (.draw [(0, .flt), (1, .flt), (2, .flt), (3, .flt), (4, .flt), (5, .flt)]) (.seq (.leaf) (.seq (.leaf) (.seq (.seq (.leaf) (.block [] (.seq (.leaf) (.cond [] (.seq (.leaf) (.leaf)) (.seq (.leaf) (.cond [] (.seq (.leaf) (.seq (.seq (.leaf) (.cond [] (.leaf) (.leaf))) (.seq (.leaf) (.leaf)))) (.seq (.leaf) (.cond [] (.seq (.leaf) (.leaf)) (.seq (.leaf) (.cond [] (.seq (.seq (.leaf) (.cond [] (.seq (.leaf) (.leaf)) (.leaf))) (.seq (.draw [(0, .flt), (1, .flt), (2, .flt), (3, .flt), (4, .flt), (5, .flt), (6, .flt), (7, .flt), (8, .flt), (9, .flt), (10, .brk)]) (.seq (.leaf) (.seq (.leaf) (.leaf))))) (.seq (.seq (.leaf) (.cond [(80, .bool)] (.leaf) (.leaf))) (.cond [] (.seq (.seq (.leaf) (.cond [] (.seq (.leaf) (.leaf)) (.leaf))) (.seq (.draw [(0, .flt), (1, .flt), (2, .flt), (3, .flt), (4, .flt), (5, .flt), (6, .flt), (7, .flt), (8, .flt), (9, .flt), (10, .brk)]) (.seq (.leaf) (.leaf)))) (.seq (.seq (.leaf) (.cond [(110, .bool)] (.leaf) (.seq (.leaf) (.cond [(110, .bool)] (.leaf) (.leaf))))) (.cond [] (.seq (.seq (.leaf) (.cond [] (.seq (.leaf) (.leaf)) (.leaf))) (.seq (.leaf) (.seq (.draw [(0, .flt), (1, .flt), (2, .flt), (3, .flt), (4, .flt), (5, .flt), (6, .flt), (7, .flt), (9, .flt), (8, .eff), (10, .flt), (11, .brk)]) (.seq (.seq (.leaf) (.cond [] (.leaf) (.leaf))) (.seq (.leaf) (.leaf)))))) (.leaf))))))))))))))) (.seq (.leaf) (.leaf))))))
def P_ref14_Model_wait (a0 : Array Value) (a1_0 : Int) (a1_1 : Int) (a1_2 : Int) (a1_3 : Int) (a1_4 : Int) (h : PH) (Q : Value → PH → Prop) : Prop :=
 xNew h (.cells a0 77 (0, 0)) fun b2 h_1 =>
 xNew h_1 (.cells #[(.int .i64 a1_0), (.int .i64 a1_1), (.int .i64 a1_2), (.int .i64 a1_3), (.int .i64 a1_4)] 29 (0, 0)) fun b3 h_2 =>
 xNew h_2 (.cells (zeroC Try.prog 77) 77 (0, 0)) fun b4 h_3 =>
 xDraw h_3 fun hs_1 =>
 oI .i64 (hs_1.cell ((⟨b3, 0, none⟩ : Addr).add 1)) fun x12 =>
 oI .i64 (hs_1.cell ((⟨b3, 0, none⟩ : Addr).add 2)) fun x14 =>
 xIdxA ((⟨b2, 0, none⟩ : Addr).add 3) 8 x14 1 fun x17 =>
 oI .i64 (h_3.cell x17) fun x18 =>
 xIdxA ((⟨b2, 0, none⟩ : Addr).add 35) 8 x14 24 fun x25 =>
 xIdxA x25 8 x12 3 fun x26 =>
 oI .i64 (h_3.cell (x26.add 0)) fun x27_0 =>
 oI .i64 (h_3.cell (x26.add 1)) fun x27_1 =>
 oI .i64 (h_3.cell (x26.add 2)) fun x27_2 =>
 xNew h_3 (.cells #[(.int .i64 0), (.int .i64 0), (.int .i64 0)] 73 (0, 0)) fun b9 h_4 =>
 xSt 3 h_4 (⟨b9, 0, none⟩ : Addr) [(.int .i64 x27_0), (.int .i64 x27_1), (.int .i64 x27_2)] fun h_5 =>
 oI .i64 (h_5.cell ((⟨b3, 0, none⟩ : Addr).add 0)) fun x29 =>
 oI .i64 (h_5.cell ((⟨b3, 0, none⟩ : Addr).add 4)) fun x32 =>
 xBlk (fun J_1 =>
 xIte ((IntKind.wrap .i64 ((IntKind.wrap .i64 (x29 * 100)) + x32)) == 409) (fun J_2 =>
 oBig h_5 (⟨b2, 0, none⟩ : Addr) 227 fun x36 =>
 xSt 227 h_5 (⟨b4, 0, none⟩ : Addr) (Array.toList x36) fun h_6 =>
 oBig h_6 (⟨b4, 0, none⟩ : Addr) 227 fun y4 =>
 Q (.tuple #[(.agg y4), (.bool (!(x18 == (IntKind.wrap .i64 (x12 + 1)))))]) h_6)
 (fun J_2 =>
 xIte ((IntKind.wrap .i64 ((IntKind.wrap .i64 (x29 * 100)) + x32)) == 412) (fun J_3 =>
 xSc (x18 == (IntKind.wrap .i64 (x12 + 1))) true (fun J_4 =>
 xIdxA ((⟨b2, 0, none⟩ : Addr).add 27) 8 x12 1 fun x45 =>
 oB (h_5.cell x45) fun x46 =>
 J_4 x46 h_5)
 (fun r47 h_7 =>
 xIte r47 (fun J_5 =>
 xIdxA ((⟨b2, 0, none⟩ : Addr).add 27) 8 x12 1 fun x51 =>
 xSt 1 h_7 x51 [(.bool false)] fun h_8 =>
 J_5 h_8)
 (fun J_5 =>
 J_5 h_7)
 (fun  (h_9 : PH) =>
 oBig h_9 (⟨b2, 0, none⟩ : Addr) 227 fun x52 =>
 xSt 227 h_9 (⟨b4, 0, none⟩ : Addr) (Array.toList x52) fun h_10 =>
 oBig h_10 (⟨b4, 0, none⟩ : Addr) 227 fun y4_1 =>
 Q (.tuple #[(.agg y4_1), (.bool r47)]) h_10)) h_5)
 (fun J_3 =>
 xIte ((IntKind.wrap .i64 ((IntKind.wrap .i64 (x29 * 100)) + x32)) == 411) (fun J_6 =>
 oBig h_5 (⟨b2, 0, none⟩ : Addr) 227 fun x56 =>
 xSt 227 h_5 (⟨b4, 0, none⟩ : Addr) (Array.toList x56) fun h_11 =>
 oBig h_11 (⟨b4, 0, none⟩ : Addr) 227 fun y4_2 =>
 Q (.tuple #[(.agg y4_2), (.bool (x18 == (IntKind.wrap .i64 (x12 + 1))))]) h_11)
 (fun J_6 =>
 xIte ((IntKind.wrap .i64 ((IntKind.wrap .i64 (x29 * 100)) + x32)) == 400) (fun J_7 =>
 xIte (!(x18 == (IntKind.wrap .i64 (x12 + 1)))) (fun J_8 =>
 oBig h_5 (⟨b2, 0, none⟩ : Addr) 227 fun x62 =>
 xSt 227 h_5 (⟨b4, 0, none⟩ : Addr) (Array.toList x62) fun h_12 =>
 oBig h_12 (⟨b4, 0, none⟩ : Addr) 227 fun y4_3 =>
 Q (.tuple #[(.agg y4_3), (.bool false)]) h_12)
 (fun J_8 =>
 J_8 h_5)
 (fun  (h_13 : PH) =>
 xDraw h_13 fun hs_2 =>
 xIdxA ((⟨b2, 0, none⟩ : Addr).add 11) 8 x14 1 fun x67 =>
 oI .i64 (hs_2.cell x67) fun x68 =>
 xIdxA ((⟨b2, 0, none⟩ : Addr).add 35) 8 x14 24 fun x70 =>
 xIdxA x70 8 x12 3 fun x71 =>
 xSt 1 h_13 (x71.add 0) [(.int .i64 x68)] fun h_14 =>
 xIdxA ((⟨b2, 0, none⟩ : Addr).add 3) 8 x14 1 fun x76 =>
 xSt 1 h_14 x76 [(.int .i64 0)] fun h_15 =>
 xIdxA ((⟨b2, 0, none⟩ : Addr).add 11) 8 x14 1 fun x78 =>
 xSt 1 h_15 x78 [(.int .i64 0)] fun h_16 =>
 oBig h_16 (⟨b2, 0, none⟩ : Addr) 227 fun x79 =>
 xSt 227 h_16 (⟨b4, 0, none⟩ : Addr) (Array.toList x79) fun h_17 =>
 oBig h_17 (⟨b4, 0, none⟩ : Addr) 227 fun y4_4 =>
 Q (.tuple #[(.agg y4_4), (.bool true)]) h_17))
 (fun J_7 =>
 xIte ((IntKind.wrap .i64 ((IntKind.wrap .i64 (x29 * 100)) + x32)) == 513) (fun J_9 =>
 J_9 ((IntKind.wrap .i64 ((IntKind.wrap .i64 (x29 * 100)) + x32)) == 513) h_5)
 (fun J_9 =>
 J_9 ((IntKind.wrap .i64 ((IntKind.wrap .i64 (x29 * 100)) + x32)) == 512) h_5)
 (fun (x80 : Bool) (h_18 : PH) =>
 xIte x80 (fun J_10 =>
 oI .i64 (h_18.cell ((⟨b9, 0, none⟩ : Addr).add 0)) fun x84 =>
 xSc (x84 == 0) false (fun J_11 =>
 oI .i64 (h_18.cell ((⟨b3, 0, none⟩ : Addr).add 4)) fun x88 =>
 xSc (x88 == 12) true (fun J_12 =>
 xIdxA ((⟨b2, 0, none⟩ : Addr).add 27) 8 x12 1 fun x93 =>
 oB (h_18.cell x93) fun x94 =>
 J_12 (!x94) h_18)
 (fun r96 h_19 =>
 J_11 r96 h_19) h_18)
 (fun r97 h_20 =>
 xIte r97 (fun J_13 =>
 oBig h_20 (⟨b2, 0, none⟩ : Addr) 227 fun x98 =>
 xSt 227 h_20 (⟨b4, 0, none⟩ : Addr) (Array.toList x98) fun h_21 =>
 oBig h_21 (⟨b4, 0, none⟩ : Addr) 227 fun y4_5 =>
 Q (.tuple #[(.agg y4_5), (.bool false)]) h_21)
 (fun J_13 =>
 J_13 h_20)
 (fun  (h_22 : PH) =>
 xDraw h_22 fun hs_3 =>
 oI .i64 (hs_3.cell ((⟨b9, 0, none⟩ : Addr).add 0)) fun x102 =>
 oI .i64 (hs_3.cell ((⟨b3, 0, none⟩ : Addr).add 4)) fun x104 =>
 xIdxA ((⟨b2, 0, none⟩ : Addr).add 35) 8 x14 24 fun x107 =>
 xIdxA x107 8 x12 3 fun x108 =>
 xSt 3 h_22 x108 [(.int .i64 0), (.int .i64 x102), (.int .i64 x104)] fun h_23 =>
 oBig h_23 (⟨b2, 0, none⟩ : Addr) 227 fun x109 =>
 xSt 227 h_23 (⟨b4, 0, none⟩ : Addr) (Array.toList x109) fun h_24 =>
 oBig h_24 (⟨b4, 0, none⟩ : Addr) 227 fun y4_6 =>
 Q (.tuple #[(.agg y4_6), (.bool true)]) h_24)) h_18)
 (fun J_10 =>
 xIte ((IntKind.wrap .i64 ((IntKind.wrap .i64 (x29 * 100)) + x32)) == 600) (fun J_14 =>
 J_14 ((IntKind.wrap .i64 ((IntKind.wrap .i64 (x29 * 100)) + x32)) == 600) h_18)
 (fun J_14 =>
 xIte ((IntKind.wrap .i64 ((IntKind.wrap .i64 (x29 * 100)) + x32)) == 613) (fun J_15 =>
 J_15 ((IntKind.wrap .i64 ((IntKind.wrap .i64 (x29 * 100)) + x32)) == 613) h_18)
 (fun J_15 =>
 J_15 ((IntKind.wrap .i64 ((IntKind.wrap .i64 (x29 * 100)) + x32)) == 612) h_18)
 (fun (x110 : Bool) (h_25 : PH) =>
 J_14 x110 h_25))
 (fun (x110_1 : Bool) (h_26 : PH) =>
 xIte x110_1 (fun J_16 =>
 xIdxA ((⟨b2, 0, none⟩ : Addr).add 3) 8 x14 1 fun x116 =>
 oI .i64 (h_26.cell x116) fun x117 =>
 xSc (x117 != 0) false (fun J_17 =>
 oI .i64 (h_26.cell ((⟨b9, 0, none⟩ : Addr).add 1)) fun x121 =>
 J_17 (x121 == 0) h_26)
 (fun r123 h_27 =>
 xSc r123 false (fun J_18 =>
 oI .i64 (h_27.cell ((⟨b9, 0, none⟩ : Addr).add 2)) fun x126 =>
 oI .i64 (h_27.cell ((⟨b3, 0, none⟩ : Addr).add 4)) fun x128 =>
 J_18 (x126 != x128) h_27)
 (fun r130 h_28 =>
 xIte r130 (fun J_19 =>
 oBig h_28 (⟨b2, 0, none⟩ : Addr) 227 fun x131 =>
 xSt 227 h_28 (⟨b4, 0, none⟩ : Addr) (Array.toList x131) fun h_29 =>
 oBig h_29 (⟨b4, 0, none⟩ : Addr) 227 fun y4_7 =>
 Q (.tuple #[(.agg y4_7), (.bool false)]) h_29)
 (fun J_19 =>
 J_19 h_28)
 (fun  (h_30 : PH) =>
 xIdxA ((⟨b2, 0, none⟩ : Addr).add 35) 8 x14 24 fun x136 =>
 xIdxA x136 8 x12 3 fun x137 =>
 xSt 3 h_30 x137 [(.int .i64 0), (.int .i64 0), (.int .i64 0)] fun h_31 =>
 xDraw h_31 fun hs_4 =>
 oI .i64 (hs_4.cell ((⟨b9, 0, none⟩ : Addr).add 1)) fun x143 =>
 xIdxA ((⟨b2, 0, none⟩ : Addr).add 3) 8 x14 1 fun x145 =>
 xSt 1 h_31 x145 [(.int .i64 (IntKind.wrap .i64 (x12 + 1)))] fun h_32 =>
 PH.le hs_4 h_32 ∧
 xIdxA ((⟨b2, 0, none⟩ : Addr).add 11) 8 x14 1 fun x147 =>
 xSt 1 h_32 x147 [(.int .i64 x143)] fun h_33 =>
 oI .i64 (h_33.cell ((⟨b3, 0, none⟩ : Addr).add 4)) fun x149 =>
 xIte (x149 == 12) (fun J_20 =>
 xIdxA ((⟨b2, 0, none⟩ : Addr).add 27) 8 x12 1 fun x153 =>
 xSt 1 h_33 x153 [(.bool false)] fun h_34 =>
 J_20 h_34)
 (fun J_20 =>
 J_20 h_33)
 (fun  (h_35 : PH) =>
 oBig h_35 (⟨b2, 0, none⟩ : Addr) 227 fun x154 =>
 xSt 227 h_35 (⟨b4, 0, none⟩ : Addr) (Array.toList x154) fun h_36 =>
 oBig h_36 (⟨b4, 0, none⟩ : Addr) 227 fun y4_8 =>
 Q (.tuple #[(.agg y4_8), (.bool true)]) h_36))) h_27) h_26)
 (fun J_16 =>
 J_16 h_26)
 (fun  (h_37 : PH) =>
 J_10 h_37)))
 (fun  (h_38 : PH) =>
 J_7 h_38)))
 (fun  (h_39 : PH) =>
 J_6 h_39))
 (fun  (h_40 : PH) =>
 J_3 h_40))
 (fun  (h_41 : PH) =>
 J_2 h_41))
 (fun  (h_42 : PH) =>
 J_1 h_42))
 (fun  (h_43 : PH) =>
 oBig h_43 (⟨b2, 0, none⟩ : Addr) 227 fun x155 =>
 xSt 227 h_43 (⟨b4, 0, none⟩ : Addr) (Array.toList x155) fun h_44 =>
 oBig h_44 (⟨b4, 0, none⟩ : Addr) 227 fun y4_9 =>
 Q (.tuple #[(.agg y4_9), (.bool false)]) h_44)
theorem P_ref14_Model_wait_eq (a0 : Array Value) (a1_0 : Int) (a1_1 : Int) (a1_2 : Int) (a1_3 : Int) (a1_4 : Int) (h : PH) (Q : Value → PH → Prop) : dFn Try.prog Try.f94 A_ref14_Model_wait #[(.agg a0), (.agg #[(.int .i64 a1_0), (.int .i64 a1_1), (.int .i64 a1_2), (.int .i64 a1_3), (.int .i64 a1_4)])] h Q = P_ref14_Model_wait a0 a1_0 a1_1 a1_2 a1_3 a1_4 h Q := by kernel_rfl
theorem P_ref14_Model_wait_of {a0 : Array Value} {a1_0 : Int} {a1_1 : Int} {a1_2 : Int} {a1_3 : Int} {a1_4 : Int} {h : PH} {Q : Value → PH → Prop} (x : P_ref14_Model_wait a0 a1_0 a1_1 a1_2 a1_3 a1_4 h Q) : Meets Try.prog 94 #[(.agg a0), (.agg #[(.int .i64 a1_0), (.int .i64 a1_1), (.int .i64 a1_2), (.int .i64 a1_3), (.int .i64 a1_4)])] h Q :=
  spec_of Try.func94 mix (by kernel_rfl) ((P_ref14_Model_wait_eq a0 a1_0 a1_1 a1_2 a1_3 a1_4 h Q).symm ▸ x)
/-- (futtock/futtockref14.Model).tell -/
def A_ref14_Model_tell : Ann := .seq (.leaf) (.seq (.leaf) (.seq (.draw [(0, .flt), (1, .flt), (2, .flt), (3, .flt), (4, .flt), (5, .flt), (6, .flt), (7, .flt), (8, .flt)]) (.seq (.block [] (.seq (.leaf) (.cond [] (.seq (.seq (.draw [(0, .flt), (1, .flt), (2, .flt), (3, .flt), (4, .flt), (5, .flt), (6, .flt), (7, .flt), (8, .flt), (9, .flt), (10, .flt), (11, .eff), (12, .flt), (13, .flt), (14, .flt), (15, .flt), (16, .flt), (17, .flt), (18, .flt), (19, .flt), (20, .flt), (21, .flt), (22, .flt), (23, .flt), (24, .flt)]) (.cond [] (.seq (.leaf) (.leaf)) (.leaf))) (.seq (.draw [(0, .flt), (1, .flt), (2, .flt), (3, .flt), (4, .flt), (5, .flt), (6, .flt), (7, .flt), (8, .flt), (9, .flt), (10, .flt), (11, .flt), (12, .flt), (13, .flt), (14, .flt), (15, .brk)]) (.seq (.leaf) (.leaf)))) (.seq (.leaf) (.cond [] (.seq (.draw [(0, .flt), (1, .flt), (2, .flt), (3, .flt), (4, .flt), (5, .flt), (6, .flt), (7, .flt), (8, .eff), (9, .flt)]) (.leaf)) (.seq (.leaf) (.cond [] (.seq (.draw [(0, .flt), (1, .flt), (2, .flt), (3, .flt), (4, .flt), (5, .flt), (6, .eff), (7, .flt), (8, .flt), (9, .flt), (10, .flt), (11, .flt), (12, .flt), (13, .flt), (14, .eff), (15, .flt), (16, .flt), (17, .flt), (18, .eff), (19, .flt)]) (.leaf)) (.seq (.leaf) (.cond [] (.seq (.draw [(0, .flt), (1, .flt), (2, .flt), (3, .flt), (4, .flt), (5, .flt), (6, .flt), (7, .flt), (8, .eff), (9, .flt)]) (.leaf)) (.seq (.leaf) (.cond [] (.seq (.draw [(0, .flt), (1, .flt), (2, .flt), (3, .flt), (4, .flt), (5, .flt), (6, .flt), (7, .flt), (8, .flt), (9, .flt), (10, .eff), (11, .flt), (12, .eff), (13, .flt)]) (.leaf)) (.leaf)))))))))))) (.seq (.leaf) (.leaf)))))
def P_ref14_Model_tell (a0 : Array Value) (a1_0 : Int) (a1_1 : Int) (a1_2 : Int) (a1_3 : Int) (a1_4 : Int) (h : PH) (Q : Value → PH → Prop) : Prop :=
 xNew h (.cells a0 77 (0, 0)) fun b2 h_1 =>
 xNew h_1 (.cells #[(.int .i64 a1_0), (.int .i64 a1_1), (.int .i64 a1_2), (.int .i64 a1_3), (.int .i64 a1_4)] 29 (0, 0)) fun b3 h_2 =>
 xNew h_2 (.cells (zeroC Try.prog 77) 77 (0, 0)) fun b4 h_3 =>
 oI .i64 (h_3.cell ((⟨b3, 0, none⟩ : Addr).add 2)) fun x9 =>
 xDraw h_3 fun hs_1 =>
 xIdxA ((⟨b2, 0, none⟩ : Addr).add 3) 8 x9 1 fun x12 =>
 oI .i64 (hs_1.cell x12) fun x13 =>
 oI .i64 (hs_1.cell ((⟨b3, 0, none⟩ : Addr).add 1)) fun x15 =>
 xBlk (fun J_1 =>
 oI .i64 (h_3.cell ((⟨b3, 0, none⟩ : Addr).add 0)) fun x20 =>
 xIte (x20 == 7) (fun J_2 =>
 xDraw h_3 fun hs_2 =>
 oI .i64 (hs_2.cell ((⟨b3, 0, none⟩ : Addr).add 4)) fun x23 =>
 xSc (x23 != 0) false (fun J_3 =>
 J_3 (!(x13 == (IntKind.wrap .i64 (x15 + 1)))) h_3)
 (fun r28 h_4 =>
 xSc r28 false (fun J_4 =>
 oBig hs_2 (⟨b2, 0, none⟩ : Addr) 227 fun x30 =>
 oI .i64 (hs_2.cell ((⟨b3, 0, none⟩ : Addr).add 3)) fun x32 =>
 Meets Try.prog 91 #[(.agg x30), (.int .i64 x32)] h_4 fun v33 h_5 =>
 oB (some v33) fun x33 =>
 PH.le hs_2 h_5 ∧
 J_4 (!x33) h_5)
 (fun r35 h_6 =>
 xSc r35 false (fun J_5 =>
 oI .i64 (hs_2.cell ((⟨b3, 0, none⟩ : Addr).add 3)) fun x39 =>
 xIdxA ((⟨b2, 0, none⟩ : Addr).add 35) 8 x9 24 fun x41 =>
 xIdxA x41 8 x39 3 fun x42 =>
 oI .i64 (hs_2.cell (x42.add 0)) fun x44 =>
 J_5 (x44 == 0) h_6)
 (fun r46 h_7 =>
 xIte r46 (fun J_6 =>
 oBig h_7 (⟨b2, 0, none⟩ : Addr) 227 fun x47 =>
 xSt 227 h_7 (⟨b4, 0, none⟩ : Addr) (Array.toList x47) fun h_8 =>
 oBig h_8 (⟨b4, 0, none⟩ : Addr) 227 fun y4 =>
 Q (.tuple #[(.agg y4), (.bool false)]) h_8)
 (fun J_6 =>
 J_6 h_7)
 (fun  (h_9 : PH) =>
 xDraw h_9 fun hs_3 =>
 oI .i64 (hs_3.cell ((⟨b3, 0, none⟩ : Addr).add 3)) fun x50 =>
 oI .i64 (hs_3.cell ((⟨b3, 0, none⟩ : Addr).add 3)) fun x53 =>
 xIdxA ((⟨b2, 0, none⟩ : Addr).add 35) 8 x9 24 fun x55 =>
 xIdxA x55 8 x53 3 fun x56 =>
 oI .i64 (hs_3.cell (x56.add 0)) fun x58 =>
 xIdxA ((⟨b2, 0, none⟩ : Addr).add 35) 8 x9 24 fun x61 =>
 xIdxA x61 8 x50 3 fun x62 =>
 xSt 3 h_9 x62 [(.int .i64 0), (.int .i64 x58), (.int .i64 0)] fun h_10 =>
 oBig h_10 (⟨b2, 0, none⟩ : Addr) 227 fun x63 =>
 xSt 227 h_10 (⟨b4, 0, none⟩ : Addr) (Array.toList x63) fun h_11 =>
 oBig h_11 (⟨b4, 0, none⟩ : Addr) 227 fun y4_1 =>
 Q (.tuple #[(.agg y4_1), (.bool true)]) h_11)) h_6) h_4) h_3)
 (fun J_2 =>
 oI .i64 (h_3.cell ((⟨b3, 0, none⟩ : Addr).add 0)) fun x66 =>
 xSc (x66 == 8) true (fun J_7 =>
 oI .i64 (h_3.cell ((⟨b3, 0, none⟩ : Addr).add 4)) fun x70 =>
 J_7 (x70 == 9) h_3)
 (fun r72 h_12 =>
 xIte r72 (fun J_8 =>
 xDraw h_12 fun hs_4 =>
 oBig hs_4 (⟨b2, 0, none⟩ : Addr) 227 fun x73 =>
 xSc (!(x13 == (IntKind.wrap .i64 (x15 + 1)))) true (fun J_9 =>
 oI .i64 (hs_4.cell ((⟨b3, 0, none⟩ : Addr).add 3)) fun x78 =>
 J_9 (x78 == (-1)) h_12)
 (fun r80 h_13 =>
 xSt 227 h_13 (⟨b4, 0, none⟩ : Addr) (Array.toList x73) fun h_14 =>
 PH.le hs_4 h_14 ∧
 oBig h_14 (⟨b4, 0, none⟩ : Addr) 227 fun y4_2 =>
 Q (.tuple #[(.agg y4_2), (.bool r80)]) h_14) h_12)
 (fun J_8 =>
 oI .i64 (h_12.cell ((⟨b3, 0, none⟩ : Addr).add 0)) fun x83 =>
 xSc (x83 == 8) true (fun J_10 =>
 oI .i64 (h_12.cell ((⟨b3, 0, none⟩ : Addr).add 4)) fun x87 =>
 J_10 (x87 == 0) h_12)
 (fun r89 h_15 =>
 xIte r89 (fun J_11 =>
 xDraw h_15 fun hs_5 =>
 oBig hs_5 (⟨b2, 0, none⟩ : Addr) 227 fun x90 =>
 xSc (x13 == (IntKind.wrap .i64 (x15 + 1))) true (fun J_12 =>
 oBig hs_5 (⟨b2, 0, none⟩ : Addr) 227 fun x93 =>
 oI .i64 (hs_5.cell ((⟨b3, 0, none⟩ : Addr).add 3)) fun x95 =>
 Meets Try.prog 91 #[(.agg x93), (.int .i64 x95)] h_15 fun v96 h_16 =>
 oB (some v96) fun x96 =>
 PH.le hs_5 h_16 ∧
 xSc x96 false (fun J_13 =>
 oI .i64 (hs_5.cell ((⟨b3, 0, none⟩ : Addr).add 3)) fun x99 =>
 xSc (x99 == (-1)) true (fun J_14 =>
 oBig hs_5 (⟨b2, 0, none⟩ : Addr) 227 fun x102 =>
 Meets Try.prog 110 #[(.agg x102), (.int .i64 x9)] h_16 fun v104 h_17 =>
 oB (some v104) fun x104 =>
 PH.le hs_5 h_17 ∧
 J_14 x104 h_17)
 (fun r105 h_18 =>
 J_13 r105 h_18) h_16)
 (fun r106 h_19 =>
 J_12 r106 h_19) h_16)
 (fun r107 h_20 =>
 xSt 227 h_20 (⟨b4, 0, none⟩ : Addr) (Array.toList x90) fun h_21 =>
 PH.le hs_5 h_21 ∧
 oBig h_21 (⟨b4, 0, none⟩ : Addr) 227 fun y4_3 =>
 Q (.tuple #[(.agg y4_3), (.bool r107)]) h_21) h_15)
 (fun J_11 =>
 oI .i64 (h_15.cell ((⟨b3, 0, none⟩ : Addr).add 0)) fun x110 =>
 xSc (x110 == 9) true (fun J_15 =>
 oI .i64 (h_15.cell ((⟨b3, 0, none⟩ : Addr).add 4)) fun x114 =>
 J_15 (x114 == 9) h_15)
 (fun r116 h_22 =>
 xIte r116 (fun J_16 =>
 xDraw h_22 fun hs_6 =>
 oBig hs_6 (⟨b2, 0, none⟩ : Addr) 227 fun x117 =>
 xSc (!(x13 == (IntKind.wrap .i64 (x15 + 1)))) true (fun J_17 =>
 oI .i64 (hs_6.cell ((⟨b3, 0, none⟩ : Addr).add 3)) fun x122 =>
 J_17 (x122 == 0) h_22)
 (fun r124 h_23 =>
 xSt 227 h_23 (⟨b4, 0, none⟩ : Addr) (Array.toList x117) fun h_24 =>
 PH.le hs_6 h_24 ∧
 oBig h_24 (⟨b4, 0, none⟩ : Addr) 227 fun y4_4 =>
 Q (.tuple #[(.agg y4_4), (.bool r124)]) h_24) h_22)
 (fun J_16 =>
 oI .i64 (h_22.cell ((⟨b3, 0, none⟩ : Addr).add 0)) fun x127 =>
 xSc (x127 == 9) true (fun J_18 =>
 oI .i64 (h_22.cell ((⟨b3, 0, none⟩ : Addr).add 4)) fun x131 =>
 J_18 (x131 == 0) h_22)
 (fun r133 h_25 =>
 xIte r133 (fun J_19 =>
 xDraw h_25 fun hs_7 =>
 oBig hs_7 (⟨b2, 0, none⟩ : Addr) 227 fun x134 =>
 xSc (x13 == (IntKind.wrap .i64 (x15 + 1))) true (fun J_20 =>
 oI .i64 (hs_7.cell ((⟨b3, 0, none⟩ : Addr).add 3)) fun x138 =>
 J_20 (x138 == 0) h_25)
 (fun r140 h_26 =>
 xSc r140 true (fun J_21 =>
 oBig hs_7 (⟨b2, 0, none⟩ : Addr) 227 fun x142 =>
 Meets Try.prog 110 #[(.agg x142), (.int .i64 x9)] h_26 fun v144 h_27 =>
 oB (some v144) fun x144 =>
 PH.le hs_7 h_27 ∧
 J_21 x144 h_27)
 (fun r145 h_28 =>
 xSt 227 h_28 (⟨b4, 0, none⟩ : Addr) (Array.toList x134) fun h_29 =>
 PH.le hs_7 h_29 ∧
 oBig h_29 (⟨b4, 0, none⟩ : Addr) 227 fun y4_5 =>
 Q (.tuple #[(.agg y4_5), (.bool r145)]) h_29) h_26) h_25)
 (fun J_19 =>
 J_19 h_25)
 (fun  (h_30 : PH) =>
 J_16 h_30)) h_22)
 (fun  (h_31 : PH) =>
 J_11 h_31)) h_15)
 (fun  (h_32 : PH) =>
 J_8 h_32)) h_12)
 (fun  (h_33 : PH) =>
 J_2 h_33)) h_3)
 (fun  (h_34 : PH) =>
 J_1 h_34))
 (fun  (h_35 : PH) =>
 oBig h_35 (⟨b2, 0, none⟩ : Addr) 227 fun x146 =>
 xSt 227 h_35 (⟨b4, 0, none⟩ : Addr) (Array.toList x146) fun h_36 =>
 oBig h_36 (⟨b4, 0, none⟩ : Addr) 227 fun y4_6 =>
 Q (.tuple #[(.agg y4_6), (.bool false)]) h_36)
theorem P_ref14_Model_tell_eq (a0 : Array Value) (a1_0 : Int) (a1_1 : Int) (a1_2 : Int) (a1_3 : Int) (a1_4 : Int) (h : PH) (Q : Value → PH → Prop) : dFn Try.prog Try.f95 A_ref14_Model_tell #[(.agg a0), (.agg #[(.int .i64 a1_0), (.int .i64 a1_1), (.int .i64 a1_2), (.int .i64 a1_3), (.int .i64 a1_4)])] h Q = P_ref14_Model_tell a0 a1_0 a1_1 a1_2 a1_3 a1_4 h Q := by kernel_rfl
theorem P_ref14_Model_tell_of {a0 : Array Value} {a1_0 : Int} {a1_1 : Int} {a1_2 : Int} {a1_3 : Int} {a1_4 : Int} {h : PH} {Q : Value → PH → Prop} (x : P_ref14_Model_tell a0 a1_0 a1_1 a1_2 a1_3 a1_4 h Q) : Meets Try.prog 95 #[(.agg a0), (.agg #[(.int .i64 a1_0), (.int .i64 a1_1), (.int .i64 a1_2), (.int .i64 a1_3), (.int .i64 a1_4)])] h Q :=
  spec_of Try.func95 mix (by kernel_rfl) ((P_ref14_Model_tell_eq a0 a1_0 a1_1 a1_2 a1_3 a1_4 h Q).symm ▸ x)
/-- (futtock/futtockref14.Model).ask -/
def A_ref14_Model_ask : Ann := .seq (.leaf) (.seq (.leaf) (.seq (.block [] (.seq (.leaf) (.cond [] (.seq (.draw [(0, .flt), (1, .flt), (2, .flt), (3, .flt), (4, .flt), (5, .flt), (6, .flt), (7, .flt), (8, .flt), (9, .flt), (10, .flt), (11, .eff), (12, .flt)]) (.leaf)) (.seq (.leaf) (.cond [] (.seq (.leaf) (.leaf)) (.seq (.leaf) (.cond [] (.seq (.seq (.leaf) (.cond [] (.leaf) (.leaf))) (.seq (.draw [(0, .flt), (1, .flt), (2, .flt), (3, .flt), (4, .flt), (5, .flt), (6, .flt), (7, .flt), (8, .flt), (9, .flt), (10, .flt), (11, .flt), (12, .flt), (13, .flt), (14, .flt), (15, .eff), (16, .flt)]) (.leaf))) (.seq (.leaf) (.cond [] (.seq (.leaf) (.seq (.seq (.draw [(0, .flt), (1, .flt), (2, .flt), (3, .flt), (4, .flt), (5, .flt), (6, .flt), (7, .flt)]) (.cond [(7, (.int .i64))] (.leaf) (.leaf))) (.seq (.draw [(0, .flt), (1, .flt), (2, .flt), (3, .flt), (4, .flt), (5, .eff), (6, .flt)]) (.leaf)))) (.leaf)))))))))) (.seq (.seq (.leaf) (.cond [] (.seq (.leaf) (.leaf)) (.leaf))) (.seq (.leaf) (.seq (.leaf) (.leaf))))))
def P_ref14_Model_ask (a0 : Array Value) (a1_0 : Int) (a1_1 : Int) (a1_2 : Int) (a1_3 : Int) (a1_4 : Int) (h : PH) (Q : Value → PH → Prop) : Prop :=
 xNew h (.cells a0 77 (0, 0)) fun b2 h_1 =>
 xNew h_1 (.cells #[(.int .i64 a1_0), (.int .i64 a1_1), (.int .i64 a1_2), (.int .i64 a1_3), (.int .i64 a1_4)] 29 (0, 0)) fun b3 h_2 =>
 xNew h_2 (.cells (zeroC Try.prog 77) 77 (0, 0)) fun b4 h_3 =>
 oI .i64 (h_3.cell ((⟨b3, 0, none⟩ : Addr).add 2)) fun x9 =>
 xBlk (fun J_1 =>
 oI .i64 (h_3.cell ((⟨b3, 0, none⟩ : Addr).add 0)) fun x12 =>
 xSc (x12 == 10) true (fun J_2 =>
 oI .i64 (h_3.cell ((⟨b3, 0, none⟩ : Addr).add 4)) fun x16 =>
 J_2 (x16 == 11) h_3)
 (fun r18 h_4 =>
 xIte r18 (fun J_3 =>
 xDraw h_4 fun hs_1 =>
 oBig hs_1 (⟨b2, 0, none⟩ : Addr) 227 fun x19 =>
 xIdxA ((⟨b2, 0, none⟩ : Addr).add 3) 8 x9 1 fun x22 =>
 oI .i64 (hs_1.cell x22) fun x23 =>
 xSc (x23 != 0) true (fun J_4 =>
 oI .i64 (hs_1.cell ((⟨b3, 0, none⟩ : Addr).add 3)) fun x27 =>
 J_4 (x27 == 0) h_4)
 (fun r29 h_5 =>
 xSt 227 h_5 (⟨b4, 0, none⟩ : Addr) (Array.toList x19) fun h_6 =>
 PH.le hs_1 h_6 ∧
 oBig h_6 (⟨b4, 0, none⟩ : Addr) 227 fun y4 =>
 Q (.tuple #[(.agg y4), (.bool r29)]) h_6) h_4)
 (fun J_3 =>
 oI .i64 (h_4.cell ((⟨b3, 0, none⟩ : Addr).add 4)) fun x32 =>
 xIte (x32 != 0) (fun J_5 =>
 oBig h_4 (⟨b2, 0, none⟩ : Addr) 227 fun x34 =>
 xSt 227 h_4 (⟨b4, 0, none⟩ : Addr) (Array.toList x34) fun h_7 =>
 oBig h_7 (⟨b4, 0, none⟩ : Addr) 227 fun y4_1 =>
 Q (.tuple #[(.agg y4_1), (.bool false)]) h_7)
 (fun J_5 =>
 oI .i64 (h_4.cell ((⟨b3, 0, none⟩ : Addr).add 0)) fun x37 =>
 xIte (x37 == 10) (fun J_6 =>
 xIdxA ((⟨b2, 0, none⟩ : Addr).add 19) 8 x9 1 fun x41 =>
 oI .i64 (h_4.cell x41) fun x42 =>
 xSc (x42 == 0) true (fun J_7 =>
 oI .i64 (h_4.cell ((⟨b3, 0, none⟩ : Addr).add 3)) fun x46 =>
 J_7 (decide ((x46 : Int) ≥ 1)) h_4)
 (fun r48 h_8 =>
 xSc r48 true (fun J_8 =>
 oI .i64 (h_8.cell ((⟨b3, 0, none⟩ : Addr).add 3)) fun x51 =>
 J_8 (decide ((x51 : Int) ≤ 2147483647)) h_8)
 (fun r53 h_9 =>
 xIte r53 (fun J_9 =>
 oI .i64 (h_9.cell ((⟨b3, 0, none⟩ : Addr).add 3)) fun x56 =>
 xIdxA ((⟨b2, 0, none⟩ : Addr).add 19) 8 x9 1 fun x58 =>
 xSt 1 h_9 x58 [(.int .i64 x56)] fun h_10 =>
 J_9 h_10)
 (fun J_9 =>
 J_9 h_9)
 (fun  (h_11 : PH) =>
 xDraw h_11 fun hs_2 =>
 oBig hs_2 (⟨b2, 0, none⟩ : Addr) 227 fun x59 =>
 xIdxA ((⟨b2, 0, none⟩ : Addr).add 19) 8 x9 1 fun x62 =>
 oI .i64 (hs_2.cell x62) fun x63 =>
 xSc (x63 != 0) true (fun J_10 =>
 xIdxA ((⟨b2, 0, none⟩ : Addr).add 19) 8 x9 1 fun x68 =>
 oI .i64 (hs_2.cell x68) fun x69 =>
 oI .i64 (hs_2.cell ((⟨b3, 0, none⟩ : Addr).add 3)) fun x71 =>
 J_10 (x69 == x71) h_11)
 (fun r73 h_12 =>
 xSt 227 h_12 (⟨b4, 0, none⟩ : Addr) (Array.toList x59) fun h_13 =>
 PH.le hs_2 h_13 ∧
 oBig h_13 (⟨b4, 0, none⟩ : Addr) 227 fun y4_2 =>
 Q (.tuple #[(.agg y4_2), (.bool r73)]) h_13) h_11)) h_8) h_4)
 (fun J_6 =>
 oI .i64 (h_4.cell ((⟨b3, 0, none⟩ : Addr).add 0)) fun x76 =>
 xIte (x76 == 11) (fun J_11 =>
 xDraw h_4 fun hs_3 =>
 xIdxA ((⟨b2, 0, none⟩ : Addr).add 3) 8 x9 1 fun x80 =>
 oI .i64 (hs_3.cell x80) fun x81 =>
 oI .i64 (hs_3.cell ((⟨b3, 0, none⟩ : Addr).add 1)) fun x83 =>
 xIte (x81 == (IntKind.wrap .i64 (x83 + 1))) (fun J_12 =>
 J_12 1 h_4)
 (fun J_12 =>
 J_12 0 h_4)
 (fun (x7 : Int) (h_14 : PH) =>
 xDraw h_14 fun hs_4 =>
 oBig hs_4 (⟨b2, 0, none⟩ : Addr) 227 fun x86 =>
 oI .i64 (hs_4.cell ((⟨b3, 0, none⟩ : Addr).add 3)) fun x88 =>
 xSt 227 h_14 (⟨b4, 0, none⟩ : Addr) (Array.toList x86) fun h_15 =>
 PH.le hs_4 h_15 ∧
 oBig h_15 (⟨b4, 0, none⟩ : Addr) 227 fun y4_3 =>
 Q (.tuple #[(.agg y4_3), (.bool (x88 == x7))]) h_15))
 (fun J_11 =>
 J_11 h_4)
 (fun  (h_16 : PH) =>
 J_6 h_16))
 (fun  (h_17 : PH) =>
 J_5 h_17))
 (fun  (h_18 : PH) =>
 J_3 h_18))
 (fun  (h_19 : PH) =>
 J_1 h_19)) h_3)
 (fun  (h_20 : PH) =>
 oBig h_20 (⟨b2, 0, none⟩ : Addr) 227 fun x91 =>
 oI .i64 (h_20.cell ((⟨b3, 0, none⟩ : Addr).add 3)) fun x93 =>
 Meets Try.prog 91 #[(.agg x91), (.int .i64 x93)] h_20 fun v94 h_21 =>
 oB (some v94) fun x94 =>
 xIte (!x94) (fun J_13 =>
 oBig h_21 (⟨b2, 0, none⟩ : Addr) 227 fun x96 =>
 xSt 227 h_21 (⟨b4, 0, none⟩ : Addr) (Array.toList x96) fun h_22 =>
 oBig h_22 (⟨b4, 0, none⟩ : Addr) 227 fun y4_4 =>
 Q (.tuple #[(.agg y4_4), (.bool false)]) h_22)
 (fun J_13 =>
 J_13 h_21)
 (fun  (h_23 : PH) =>
 oI .i64 (h_23.cell ((⟨b3, 0, none⟩ : Addr).add 3)) fun x98 =>
 xIdxA ((⟨b2, 0, none⟩ : Addr).add 27) 8 x98 1 fun x100 =>
 xSt 1 h_23 x100 [(.bool true)] fun h_24 =>
 oBig h_24 (⟨b2, 0, none⟩ : Addr) 227 fun x101 =>
 xSt 227 h_24 (⟨b4, 0, none⟩ : Addr) (Array.toList x101) fun h_25 =>
 oBig h_25 (⟨b4, 0, none⟩ : Addr) 227 fun y4_5 =>
 Q (.tuple #[(.agg y4_5), (.bool true)]) h_25))
theorem P_ref14_Model_ask_eq (a0 : Array Value) (a1_0 : Int) (a1_1 : Int) (a1_2 : Int) (a1_3 : Int) (a1_4 : Int) (h : PH) (Q : Value → PH → Prop) : dFn Try.prog Try.f96 A_ref14_Model_ask #[(.agg a0), (.agg #[(.int .i64 a1_0), (.int .i64 a1_1), (.int .i64 a1_2), (.int .i64 a1_3), (.int .i64 a1_4)])] h Q = P_ref14_Model_ask a0 a1_0 a1_1 a1_2 a1_3 a1_4 h Q := by kernel_rfl
theorem P_ref14_Model_ask_of {a0 : Array Value} {a1_0 : Int} {a1_1 : Int} {a1_2 : Int} {a1_3 : Int} {a1_4 : Int} {h : PH} {Q : Value → PH → Prop} (x : P_ref14_Model_ask a0 a1_0 a1_1 a1_2 a1_3 a1_4 h Q) : Meets Try.prog 96 #[(.agg a0), (.agg #[(.int .i64 a1_0), (.int .i64 a1_1), (.int .i64 a1_2), (.int .i64 a1_3), (.int .i64 a1_4)])] h Q :=
  spec_of Try.func96 mix (by kernel_rfl) ((P_ref14_Model_ask_eq a0 a1_0 a1_1 a1_2 a1_3 a1_4 h Q).symm ▸ x)
/-- (futtock/futtockref14.Model).none -/
def A_ref14_Model_none : Ann := .seq (.leaf) (.seq (.seq (.leaf) (.block [] (.loop [(5, (.int .i64))] (.seq (.seq (.leaf) (.cond [] (.leaf) (.leaf))) (.seq (.block [] (.seq (.leaf) (.cond [] (.seq (.leaf) (.leaf)) (.leaf)))) (.leaf)))))) (.seq (.leaf) (.leaf)))
def P_ref14_Model_none (a0 : Array Value) (a1 : Int) (h : PH) (Q : Value → PH → Prop) : Prop :=
 xNew h (.cells a0 77 (0, 0)) fun b2 h_1 =>
 xBlk (fun J_1 =>
 ∃ n, xLoopN (fun _ _ => False) (fun J_2 =>
 (fun (x5 : Int) (h_2 : PH) =>
 oI .i64 (h_2.cell ((⟨b2, 0, none⟩ : Addr).add 0)) fun x8 =>
 xIte (decide ((x5 : Int) < x8)) (fun J_3 =>
 J_3 h_2)
 (fun J_3 =>
 J_1 h_2)
 (fun  (h_3 : PH) =>
 xBlk (fun J_4 =>
 xIdxA ((⟨b2, 0, none⟩ : Addr).add 35) 8 a1 24 fun x15 =>
 xIdxA x15 8 x5 3 fun x16 =>
 oI .i64 (h_3.cell (x16.add 0)) fun x18 =>
 xIte (decide ((x18 : Int) > 0)) (fun J_5 =>
 Q (.bool false) h_3)
 (fun J_5 =>
 J_5 h_3)
 (fun  (h_4 : PH) =>
 J_4 h_4))
 (fun  (h_5 : PH) =>
 J_2 (IntKind.wrap .i64 (x5 + 1)) h_5)))) n 0 h_1)
 (fun  (h_6 : PH) =>
 Q (.bool true) h_6)
theorem P_ref14_Model_none_eq (a0 : Array Value) (a1 : Int) (h : PH) (Q : Value → PH → Prop) : dFn Try.prog Try.f110 A_ref14_Model_none #[(.agg a0), (.int .i64 a1)] h Q = P_ref14_Model_none a0 a1 h Q := by kernel_rfl
theorem P_ref14_Model_none_of {a0 : Array Value} {a1 : Int} {h : PH} {Q : Value → PH → Prop} (x : P_ref14_Model_none a0 a1 h Q) : Meets Try.prog 110 #[(.agg a0), (.int .i64 a1)] h Q :=
  spec_of Try.func110 mix (by kernel_rfl) ((P_ref14_Model_none_eq a0 a1 h Q).symm ▸ x)
end Go.Proofs.Ytnnedfhpicdacaa

/-
  The document's model: its small methods.
-/
set_option linter.unusedSimpArgs false
set_option linter.unusedVariables false
namespace Go.Rf
open Go Go.Md Go.Sx Go.Proofs Go.Proofs.Ytnnedfhpicdacaa

theorem meets_is {h : PH} {R : Rm} (w : R.Wf) (t : Int) : Meets Try.prog 91 #[.agg (rmA R), .int .i64 t] h fun v h' => v = .bool (R.is t) ∧ h' = h := by
  apply Meets.same
  apply P_ref14_Model_is_of
  unfold P_ref14_Model_is
  refine xNew_intro fun b h1 l1 nb e1 => ?_
  have f : Mx R h1 b := ⟨e1, w⟩
  simp only [f.m0, oI_some]
  exact xSc_and (decide (t < R.n)) (fun _ J hJ => hJ) ⟨rfl, l1⟩

theorem meets_none {h : PH} {R : Rm} (w : R.Wf) (hn : R.n ≤ 8) (o : Int) (ho : 0 ≤ o ∧ o < ((8 : Nat) : Int)) : Meets Try.prog 110 #[.agg (rmA R), .int .i64 o] h fun v h' => v = .bool (R.none' o) ∧ h' = h := by
  apply Meets.same
  apply P_ref14_Model_none_of
  unfold P_ref14_Model_none
  refine xNew_intro fun b h1 l1 nb e1 => ?_
  have f : Mx R h1 b := ⟨e1, w⟩
  refine xBlk_split (fun h' => R.none' o = true ∧ h' = h1) (fun h' ⟨e, eh⟩ => ?_) fun K hK => ?_
  · rw [e, eh]; exact ⟨rfl, l1⟩
  refine xLoop1 (fun (i : Int) h' => 0 ≤ i ∧ i ≤ 8 ∧ h' = h1 ∧ ∀ t : Nat, (t : Int) < i → (R.at' o t).waits > 0 → False) (fun (i : Int) _ => (R.n - i).toNat) ?_ ⟨by omega, by omega, rfl, fun t ht => by omega⟩
  rintro J i h2 ⟨i0, i8, rfl, hs⟩ hJ
  simp only [f.m0, oI_some]
  refine ⟨fun hx => ?_, fun hx => ?_⟩
  · have hx := of_decide_eq_true hx
    have hi : 0 ≤ i ∧ i < ((8 : Nat) : Int) := by omega
    have o8 : o.toNat < 8 := by omega
    have t8 : i.toNat < 8 := by omega
    have hw : IntKind.wrap .i64 (i + 1) = i + 1 := wrap64_id (by omega) (by omega)
    have hmu : (R.n - (i + 1)).toNat < (R.n - i).toNat := by omega
    have it : ((i.toNat : Nat) : Int) = i := by omega
    simp only [xIdxA_eq ho, xIdxA_eq hi, f.p0 o8 t8, oI_some]
    refine xBlk_split (fun h' => ¬((R.at' o i).waits > 0) ∧ h' = h2) (fun h' ⟨e, eh⟩ => ?_) fun K' hK' => ?_
    · rw [hw]
      refine hJ _ _ ⟨by omega, by omega, eh, fun t ht hp => ?_⟩ hmu
      by_cases h : (t : Int) = i
      · rw [h] at hp; exact e hp
      · exact hs t (by omega) hp
    · refine ⟨fun hp => ?_, fun hp => hK' _ ⟨of_decide_eq_false hp, rfl⟩⟩
      have hp := of_decide_eq_true hp
      refine ⟨?_, l1⟩
      have : R.none' o = false := by
        unfold Rm.none'
        rw [List.all_eq_false]
        exact ⟨i.toNat, by simp; omega, by rw [it]; simpa using hp⟩
      rw [this]
  · have hx := of_decide_eq_false hx
    refine hK _ ⟨?_, rfl⟩
    unfold Rm.none'
    rw [List.all_eq_true]
    intro t ht
    have ht : t < R.n.toNat := by simpa using ht
    simp only [Bool.not_eq_true', decide_eq_false_iff_not]
    exact hs t (by omega)

theorem meets_gone' {h : PH} {R : Rm} (w : R.Wf) (hm : R.m ≤ 8) (t : Int) (ht : 0 ≤ t ∧ t < ((8 : Nat) : Int)) : Meets Try.prog 92 #[.agg (rmA R), .int .i64 t] h fun v h' => v = .bool (R.gone t) ∧ h' = h := by
  apply Meets.same
  apply P_ref14_Model_gone_of
  unfold P_ref14_Model_gone
  refine xNew_intro fun b h1 l1 nb e1 => ?_
  have f : Mx R h1 b := ⟨e1, w⟩
  refine xBlk_split (fun h' => R.gone t = false ∧ h' = h1) (fun h' ⟨e, eh⟩ => ?_) fun K hK => ?_
  · rw [e, eh]; exact ⟨rfl, l1⟩
  refine xLoop1 (fun (i : Int) h' => 0 ≤ i ∧ i ≤ 8 ∧ h' = h1 ∧ ∀ o : Nat, (o : Int) < i → (decide ((R.at' o t).waits > 0) || decide ((R.at' o t).left > 0)) = false) (fun (i : Int) _ => (R.m - i).toNat) ?_ ⟨by omega, by omega, rfl, fun t ht => by omega⟩
  rintro J i h2 ⟨i0, i8, rfl, hs⟩ hJ
  simp only [f.m1, oI_some]
  refine ⟨fun hx => ?_, fun hx => ?_⟩
  · have hx := of_decide_eq_true hx
    have hi : 0 ≤ i ∧ i < ((8 : Nat) : Int) := by omega
    have o8 : t.toNat < 8 := by omega
    have t8 : i.toNat < 8 := by omega
    have hw : IntKind.wrap .i64 (i + 1) = i + 1 := wrap64_id (by omega) (by omega)
    have hmu : (R.m - (i + 1)).toNat < (R.m - i).toNat := by omega
    have it : ((i.toNat : Nat) : Int) = i := by omega
    simp only [xIdxA_eq ht, xIdxA_eq hi, f.p0 t8 o8, f.p1 t8 o8, oI_some]
    refine xBlk_split (fun h' => (decide ((R.at' i t).waits > 0) || decide ((R.at' i t).left > 0)) = false ∧ h' = h2) (fun h' ⟨e, eh⟩ => ?_) fun K' hK' => ?_
    · rw [hw]
      refine hJ _ _ ⟨by omega, by omega, eh, fun o ho => ?_⟩ hmu
      by_cases h : (o : Int) = i
      · rw [h]; exact e
      · exact hs o (by omega)
    · refine xSc_or (decide ((R.at' i t).left > 0)) (fun _ J' hJ' => hJ') ⟨fun hp => ?_, fun hp => hK' _ ⟨hp, rfl⟩⟩
      refine ⟨?_, l1⟩
      have : R.gone t = true := by
        unfold Rm.gone
        rw [List.any_eq_true]
        exact ⟨i.toNat, by simp; omega, by rw [it]; exact hp⟩
      rw [this]
  · have hx := of_decide_eq_false hx
    refine hK _ ⟨?_, rfl⟩
    unfold Rm.gone
    rw [List.any_eq_false]
    intro o ho
    have ho : o < R.m.toNat := by simpa using ho
    rw [hs o (by omega)]; simp

end Go.Rf

/-
  The document's model: who enters, what is asked.
-/
set_option linter.unusedSimpArgs false
set_option linter.unusedVariables false
namespace Go.Rf
open Go Go.Md Go.Sx Go.Proofs Go.Proofs.Ytnnedfhpicdacaa

theorem xIte_split {b : Bool} {thn els : (PH → Prop) → Prop} {K : PH → Prop} (I : PH → Prop) (hK : ∀ h, I h → K h) (ht : b = true → ∀ K' : PH → Prop, (∀ h, I h → K' h) → thn K') (he : b = false → ∀ K' : PH → Prop, (∀ h, I h → K' h) → els K') : xIte b thn els K := ⟨fun hb => ht hb K hK, fun hb => he hb K hK⟩
theorem xIte_split1 {α : Type} {b : Bool} {thn els : (α → PH → Prop) → Prop} {K : α → PH → Prop} (I : α → PH → Prop) (hK : ∀ a h, I a h → K a h) (ht : b = true → ∀ K' : α → PH → Prop, (∀ a h, I a h → K' a h) → thn K') (he : b = false → ∀ K' : α → PH → Prop, (∀ a h, I a h → K' a h) → els K') : xIte b thn els K := ⟨fun hb => ht hb K hK, fun hb => he hb K hK⟩

def res (r : Rm × Bool) : Value := .tuple #[.agg (rmA r.1), .bool r.2]

theorem meets_enter' {h : PH} {R : Rm} (w : R.Wf) (e : Ev) (ho : 0 ≤ e.obj ∧ e.obj < ((8 : Nat) : Int)) : Meets Try.prog 93 #[.agg (rmA R), .agg #[.int .i64 e.kind, .int .i64 e.thread, .int .i64 e.obj, .int .i64 e.arg, .int .i64 e.err]] h fun v h' => v = res (R.enter e) ∧ h' = h := by
  apply Meets.same
  apply P_ref14_Model_enter_of
  unfold P_ref14_Model_enter
  have o8 : e.obj.toNat < 8 := by omega
  refine Fx.start w fun b2 b3 b4 h1 f => ?_
  refine xDraw_le ?_
  simp only [oI_some, oB_some, xIdxA_eq ho, f.x.m0, f.x.m1, f.x.m2, f.x.all, f.x.ow o8, f.x.ct o8, f.x.hs o8, f.y.e0, f.y.e1, f.y.e2, f.y.e3, f.y.e4]
  refine xSc_and (R.ow e.obj != Rm.w1 e.thread) (fun _ J hJ => hJ) ?_
  simp only [oI_some, oB_some, xIdxA_eq ho, f.x.m0, f.x.m1, f.x.m2, f.x.all, f.x.ow o8, f.x.ct o8, f.x.hs o8, f.y.e0, f.y.e1, f.y.e2, f.y.e3, f.y.e4]
  refine xBlk_split (fun h' => R.enter e = (R, false) ∧ Fx h b2 b3 b4 R e h') (fun h' ⟨er, f'⟩ => ?_) fun K hK => ?_
  · simp only [f'.x.all]; exact f'.fin w fun h2 l => ⟨by rw [er]; rfl, l⟩
  refine ⟨fun h0 => ?_, fun h0 => ?_⟩
  · have h0 : e.err = 0 := by simpa using h0
    refine xDraw_le ?_
    refine xSc_or (decide (R.ct e.obj ≥ R.most)) (fun _ J hJ => by first | exact hJ | (simp only [oI_some, oB_some, xIdxA_eq ho, f.x.m0, f.x.m1, f.x.m2, f.x.all, f.x.ow o8, f.x.ct o8, f.x.hs o8, f.y.e0, f.y.e1, f.y.e2, f.y.e3, f.y.e4]; exact hJ)) ?_
    refine ⟨fun hc => ?_, fun hc => ?_⟩
    · simp only [f.x.all]
      refine f.fin w fun h2 l => ⟨?_, l⟩
      have : R.enter e = (R, false) := by unfold Rm.enter; rw [if_pos h0, if_pos (show (R.other e || decide (R.ct e.obj ≥ R.most)) = true from hc)]
      rw [this]; rfl
    · simp only [oI_some, oB_some, xIdxA_eq ho, f.x.m0, f.x.m1, f.x.m2, f.x.all, f.x.ow o8, f.x.ct o8, f.x.hs o8, f.y.e0, f.y.e1, f.y.e2, f.y.e3, f.y.e4]
      refine f.sow o8 fun h2 _ f => ?_
      simp only [oI_some, oB_some, xIdxA_eq ho, f.x.m0, f.x.m1, f.x.m2, f.x.all, f.x.ow o8, f.x.ct o8, f.x.hs o8, f.y.e0, f.y.e1, f.y.e2, f.y.e3, f.y.e4]
      refine f.sct o8 fun h3 _ f => ?_
      simp only [oI_some, oB_some, xIdxA_eq ho, f.x.m0, f.x.m1, f.x.m2, f.x.all, f.x.ow o8, f.x.ct o8, f.x.hs o8, f.y.e0, f.y.e1, f.y.e2, f.y.e3, f.y.e4]
      refine f.fin f.w fun h2 l => ⟨?_, l⟩
      have hc : ¬(R.other e || decide (R.ct e.obj ≥ R.most)) = true := by rw [show (R.other e || decide (R.ct e.obj ≥ R.most)) = false from hc]; simp
      have : R.enter e = ((R.setOw e.obj (Rm.w1 e.thread)).setCt e.obj (IntKind.wrap .i64 (R.ct e.obj + 1)), true) := by unfold Rm.enter; rw [if_pos h0, if_neg hc]
      rw [this]; rfl
  have n0 : ¬e.err = 0 := by simpa using h0
  refine ⟨fun h0 => ?_, fun h0 => ?_⟩
  · have h0 : e.err = 10 := by simpa using h0
    refine xDraw_del b4 ?_
    simp only [oI_some, oB_some, xIdxA_eq ho, f.dx.m0, f.dx.m1, f.dx.m2, f.dx.all, f.dx.ow o8, f.dx.ct o8, f.dx.hs o8, f.dy.e0, f.dy.e1, f.dy.e2, f.dy.e3, f.dy.e4]
    refine xSc_and (decide (R.ct e.obj ≥ R.most)) (fun _ J hJ => by first | exact hJ | (simp only [oI_some, oB_some, xIdxA_eq ho, f.dx.m0, f.dx.m1, f.dx.m2, f.dx.all, f.dx.ow o8, f.dx.ct o8, f.dx.hs o8, f.dy.e0, f.dy.e1, f.dy.e2, f.dy.e3, f.dy.e4]; exact hJ)) ?_
    refine f.finD w (PH.del_le _ _) fun h2 l => ⟨?_, l⟩
    have : R.enter e = (R, R.ow e.obj == Rm.w1 e.thread && decide (R.ct e.obj ≥ R.most)) := by unfold Rm.enter; rw [if_neg n0, if_pos h0]
    rw [this]; rfl
  have n10 : ¬e.err = 10 := by simpa using h0
  refine ⟨fun h0 => ?_, fun h0 => ?_⟩
  · have h0 : e.err = 11 := by simpa using h0
    simp only [oI_some, oB_some, xIdxA_eq ho, f.x.m0, f.x.m1, f.x.m2, f.x.all, f.x.ow o8, f.x.ct o8, f.x.hs o8, f.y.e0, f.y.e1, f.y.e2, f.y.e3, f.y.e4]
    refine xSc_and (R.other e) (fun _ J hJ => hJ) ?_
    refine f.fin w fun h2 l => ⟨?_, l⟩
    have : R.enter e = (R, e.kind == 1 && R.other e) := by unfold Rm.enter; rw [if_neg n0, if_neg n10, if_pos h0]
    rw [this]; rfl
  have n11 : ¬e.err = 11 := by simpa using h0
  refine ⟨fun h0 => ?_, fun h0 => ?_⟩
  · have h0 : e.err = 14 := by simpa using h0
    simp only [oI_some, oB_some, xIdxA_eq ho, f.x.m0, f.x.m1, f.x.m2, f.x.all, f.x.ow o8, f.x.ct o8, f.x.hs o8, f.y.e0, f.y.e1, f.y.e2, f.y.e3, f.y.e4]
    refine xSc_and (R.other e) (fun _ J hJ => hJ) ?_
    refine f.fin w fun h2 l => ⟨?_, l⟩
    have : R.enter e = (R, e.kind == 2 && R.other e) := by unfold Rm.enter; rw [if_neg n0, if_neg n10, if_neg n11, if_pos h0]
    rw [this]; rfl
  have n14 : ¬e.err = 14 := by simpa using h0
  exact hK _ ⟨by unfold Rm.enter; rw [if_neg n0, if_neg n10, if_neg n11, if_neg n14], f⟩

theorem meets_ask' {h : PH} {R : Rm} (w : R.Wf) (hn : R.n ≤ 8) (e : Ev) (ho : 0 ≤ e.obj ∧ e.obj < ((8 : Nat) : Int)) : Meets Try.prog 96 #[.agg (rmA R), .agg #[.int .i64 e.kind, .int .i64 e.thread, .int .i64 e.obj, .int .i64 e.arg, .int .i64 e.err]] h fun v h' => v = res (R.ask e) ∧ h' = h := by
  apply Meets.same
  apply P_ref14_Model_ask_of
  unfold P_ref14_Model_ask
  have o8 : e.obj.toNat < 8 := by omega
  refine Fx.start w fun b2 b3 b4 h1 f => ?_
  simp only [oI_some, oB_some, xIdxA_eq ho, f.x.m0, f.x.m1, f.x.m2, f.x.all, f.x.ow o8, f.x.ct o8, f.x.hs o8, f.y.e0, f.y.e1, f.y.e2, f.y.e3, f.y.e4]
  refine xBlk_split (fun h' => R.ask e = (if R.is e.arg = true then (R.setFl e.arg true, true) else (R, false)) ∧ Fx h b2 b3 b4 R e h') (fun h' ⟨er, f⟩ => ?_) fun K hK => ?_
  · simp only [oI_some, oB_some, xIdxA_eq ho, f.x.m0, f.x.m1, f.x.m2, f.x.all, f.x.ow o8, f.x.ct o8, f.x.hs o8, f.y.e0, f.y.e1, f.y.e2, f.y.e3, f.y.e4]
    refine (meets_is w e.arg).look ?_
    simp only [oI_some, oB_some, xIdxA_eq ho, f.x.m0, f.x.m1, f.x.m2, f.x.all, f.x.ow o8, f.x.ct o8, f.x.hs o8, f.y.e0, f.y.e1, f.y.e2, f.y.e3, f.y.e4]
    refine ⟨fun hi => ?_, fun hi => ?_⟩
    · have hi : ¬R.is e.arg = true := by simpa using hi
      refine f.fin w fun h2 l => ⟨?_, l⟩
      rw [er, if_neg hi]; rfl
    · have hi : R.is e.arg = true := by simpa using hi
      have ha : 0 ≤ e.arg ∧ e.arg < ((8 : Nat) : Int) := by
        have hi := hi
        unfold Rm.is at hi
        simp only [Bool.and_eq_true, decide_eq_true_eq] at hi
        omega
      simp only [oI_some, oB_some, xIdxA_eq ho, f.x.m0, f.x.m1, f.x.m2, f.x.all, f.x.ow o8, f.x.ct o8, f.x.hs o8, f.y.e0, f.y.e1, f.y.e2, f.y.e3, f.y.e4, xIdxA_eq ha]
      refine f.sfl (by omega) fun h2 _ f => ?_
      simp only [oI_some, oB_some, xIdxA_eq ho, f.x.m0, f.x.m1, f.x.m2, f.x.all, f.x.ow o8, f.x.ct o8, f.x.hs o8, f.y.e0, f.y.e1, f.y.e2, f.y.e3, f.y.e4]
      refine f.fin f.w fun h2 l => ⟨?_, l⟩
      rw [er, if_pos hi]; rfl
  refine xSc_and (e.err == 11) (fun _ J hJ => by first | exact hJ | (simp only [oI_some, oB_some, xIdxA_eq ho, f.x.m0, f.x.m1, f.x.m2, f.x.all, f.x.ow o8, f.x.ct o8, f.x.hs o8, f.y.e0, f.y.e1, f.y.e2, f.y.e3, f.y.e4]; exact hJ)) ?_
  refine ⟨fun h0 => ?_, fun h0 => ?_⟩
  · have h0 : e.kind = 10 ∧ e.err = 11 := by simpa using h0
    refine xDraw_del b4 ?_
    simp only [oI_some, oB_some, xIdxA_eq ho, f.dx.m0, f.dx.m1, f.dx.m2, f.dx.all, f.dx.ow o8, f.dx.ct o8, f.dx.hs o8, f.dy.e0, f.dy.e1, f.dy.e2, f.dy.e3, f.dy.e4]
    refine xSc_and (e.arg == 0) (fun _ J hJ => by first | exact hJ | (simp only [oI_some, oB_some, xIdxA_eq ho, f.dx.m0, f.dx.m1, f.dx.m2, f.dx.all, f.dx.ow o8, f.dx.ct o8, f.dx.hs o8, f.dy.e0, f.dy.e1, f.dy.e2, f.dy.e3, f.dy.e4]; exact hJ)) ?_
    refine f.finD w (PH.del_le _ _) fun h2 l => ⟨?_, l⟩
    have : R.ask e = (R, R.ow e.obj != 0 && e.arg == 0) := by unfold Rm.ask; rw [if_pos h0]
    rw [this]; rfl
  have n1 : ¬(e.kind = 10 ∧ e.err = 11) := by simpa using h0
  simp only [oI_some, oB_some, xIdxA_eq ho, f.x.m0, f.x.m1, f.x.m2, f.x.all, f.x.ow o8, f.x.ct o8, f.x.hs o8, f.y.e0, f.y.e1, f.y.e2, f.y.e3, f.y.e4]
  refine ⟨fun h0 => ?_, fun h0 => ?_⟩
  · have h0 : e.err ≠ 0 := by simpa using h0
    refine f.fin w fun h2 l => ⟨?_, l⟩
    have : R.ask e = (R, false) := by unfold Rm.ask; rw [if_neg n1, if_pos h0]
    rw [this]; rfl
  have n0 : ¬e.err ≠ 0 := by simpa using h0
  simp only [oI_some, oB_some, xIdxA_eq ho, f.x.m0, f.x.m1, f.x.m2, f.x.all, f.x.ow o8, f.x.ct o8, f.x.hs o8, f.y.e0, f.y.e1, f.y.e2, f.y.e3, f.y.e4]
  refine ⟨fun h0 => ?_, fun h0 => ?_⟩
  · have h0 : e.kind = 10 := by simpa using h0
    have ask : R.ask e = (let R1 := if (R.hs e.obj == 0 && decide (e.arg ≥ 1) && decide (e.arg ≤ 2147483647)) = true then R.setHs e.obj e.arg else R
        (R1, R1.hs e.obj != 0 && R1.hs e.obj == e.arg)) := by unfold Rm.ask; rw [if_neg n1, if_neg n0, if_pos h0]
    simp only [oI_some, oB_some, xIdxA_eq ho, f.x.m0, f.x.m1, f.x.m2, f.x.all, f.x.ow o8, f.x.ct o8, f.x.hs o8, f.y.e0, f.y.e1, f.y.e2, f.y.e3, f.y.e4]
    refine xSc_and (decide (e.arg ≥ 1)) (fun _ J hJ => by first | exact hJ | (simp only [oI_some, oB_some, xIdxA_eq ho, f.x.m0, f.x.m1, f.x.m2, f.x.all, f.x.ow o8, f.x.ct o8, f.x.hs o8, f.y.e0, f.y.e1, f.y.e2, f.y.e3, f.y.e4]; exact hJ)) ?_
    refine xSc_and (decide (e.arg ≤ 2147483647)) (fun _ J hJ => by first | exact hJ | (simp only [oI_some, oB_some, xIdxA_eq ho, f.x.m0, f.x.m1, f.x.m2, f.x.all, f.x.ow o8, f.x.ct o8, f.x.hs o8, f.y.e0, f.y.e1, f.y.e2, f.y.e3, f.y.e4]; exact hJ)) ?_
    have tail : ∀ (R1 : Rm) h', R1 = (if (R.hs e.obj == 0 && decide (e.arg ≥ 1) && decide (e.arg ≤ 2147483647)) = true then R.setHs e.obj e.arg else R) → Fx h b2 b3 b4 R1 e h' → res (R.ask e) = .tuple #[.agg (rmA R1), .bool (R1.hs e.obj != 0 && R1.hs e.obj == e.arg)] := by
      intro R1 h' e1 f
      rw [ask, ← e1]; rfl
    refine xIte_split (fun h' => ∃ R1, R1 = (if (R.hs e.obj == 0 && decide (e.arg ≥ 1) && decide (e.arg ≤ 2147483647)) = true then R.setHs e.obj e.arg else R) ∧ Fx h b2 b3 b4 R1 e h') (fun h' ⟨R1, e1, f⟩ => ?_) (fun hc K hK => ?_) (fun hc K hK => hK _ ⟨R, by rw [if_neg (by rw [hc]; simp)], f⟩)
    · refine xDraw_del b4 ?_
      simp only [oI_some, oB_some, xIdxA_eq ho, f.dx.m0, f.dx.m1, f.dx.m2, f.dx.all, f.dx.ow o8, f.dx.ct o8, f.dx.hs o8, f.dy.e0, f.dy.e1, f.dy.e2, f.dy.e3, f.dy.e4]
      refine xSc_and (R1.hs e.obj == e.arg) (fun _ J hJ => by first | exact hJ | (simp only [oI_some, oB_some, xIdxA_eq ho, f.dx.m0, f.dx.m1, f.dx.m2, f.dx.all, f.dx.ow o8, f.dx.ct o8, f.dx.hs o8, f.dy.e0, f.dy.e1, f.dy.e2, f.dy.e3, f.dy.e4]; exact hJ)) ?_
      exact f.finD f.w (PH.del_le _ _) fun h2 l => ⟨(tail R1 h' e1 f).symm, l⟩
    · simp only [oI_some, oB_some, xIdxA_eq ho, f.x.m0, f.x.m1, f.x.m2, f.x.all, f.x.ow o8, f.x.ct o8, f.x.hs o8, f.y.e0, f.y.e1, f.y.e2, f.y.e3, f.y.e4]
      refine f.shs o8 fun h2 _ f => ?_
      exact hK _ ⟨_, by rw [if_pos hc], f⟩
  have n10 : ¬e.kind = 10 := by simpa using h0
  simp only [oI_some, oB_some, xIdxA_eq ho, f.x.m0, f.x.m1, f.x.m2, f.x.all, f.x.ow o8, f.x.ct o8, f.x.hs o8, f.y.e0, f.y.e1, f.y.e2, f.y.e3, f.y.e4]
  refine ⟨fun h0 => ?_, fun h0 => ?_⟩
  · have h0 : e.kind = 11 := by simpa using h0
    refine xDraw_le ?_
    simp only [oI_some, oB_some, xIdxA_eq ho, f.x.m0, f.x.m1, f.x.m2, f.x.all, f.x.ow o8, f.x.ct o8, f.x.hs o8, f.y.e0, f.y.e1, f.y.e2, f.y.e3, f.y.e4]
    refine xIte_split1 (fun (n : Int) h' => n = (if R.owns e = true then 1 else 0) ∧ h' = h1) (fun n h' ⟨en, eh⟩ => ?_) (fun hc K hK => hK _ _ ⟨by rw [if_pos (show R.owns e = true from hc)], rfl⟩) (fun hc K hK => hK _ _ ⟨by rw [if_neg (by rw [show R.owns e = false from hc]; simp)], rfl⟩)
    subst eh
    refine xDraw_del b4 ?_
    simp only [oI_some, oB_some, xIdxA_eq ho, f.dx.m0, f.dx.m1, f.dx.m2, f.dx.all, f.dx.ow o8, f.dx.ct o8, f.dx.hs o8, f.dy.e0, f.dy.e1, f.dy.e2, f.dy.e3, f.dy.e4]
    refine f.finD w (PH.del_le _ _) fun h2 l => ⟨?_, l⟩
    have : R.ask e = (R, e.arg == if R.owns e = true then 1 else 0) := by unfold Rm.ask; rw [if_neg n1, if_neg n0, if_neg n10, if_pos h0]
    rw [this, ← en]; rfl
  have n11 : ¬e.kind = 11 := by simpa using h0
  exact hK _ ⟨by unfold Rm.ask; rw [if_neg n1, if_neg n0, if_neg n10, if_neg n11], f⟩

end Go.Rf

/-
  The document's log: what a thread takes, and tells.
-/
set_option linter.unusedSimpArgs false
set_option linter.unusedVariables false
namespace Go.Gh
open Go Go.Sx Go.Md Go.Proofs Go.Proofs.Ytnnedfhpicdacaa

/-- A thread, and what it committed so far. -/
structure TI (t : Th) (L : List Ev) : Prop where
  many : t.many = L.length
  last : ∀ e, L.getLast? = some e → t.last = e
  kind : t.opn = true → 1 ≤ t.op.kind ∧ t.op.kind ≤ 9
  one : t.opn = true → ∀ e, L.getLast? = some e → t.op.kind ≠ 4 → t.op.kind ≠ 5 → t.op.kind ≠ 6 → e.kind = commitOf t.op.kind
  len : L.length ≤ 1000
/-- A thread's place, of the document's. -/
def aqL (t : Th) (p : Option Addr) (n c : Nat) : List Value := [.int .i64 t.calls, .bool t.opn, .int .i64 t.op.kind, .int .i64 t.op.obj, .int .i64 t.op.arg, .slice p n c]

theorem getLast_at {L : List Ev} (h : L.length ≠ 0) : ∃ e, L.getLast? = some e ∧ L[L.length - 1]? = some e := by
  cases hl : L.getLast? with
  | none =>
    have : L = [] := by simpa using hl
    subst this; simp at h
  | some e =>
    refine ⟨e, rfl, ?_⟩
    rw [List.getLast?_eq_getElem?] at hl
    exact hl

/-- The last one's cells. -/
theorem last_at {h : PH} {p : Option Addr} {t : Th} {L : List Ev} (I : TI t L) (r : RecsAt evL 5 h p L) (hn : L.length ≠ 0) : IntKind.wrap .i64 ((L.length : Int) - 1) = (L.length : Int) - 1 ∧ ∃ b, p = some b ∧
    h.cell ((b.add (((L.length : Int) - 1).toNat * 5)).add 0) = some (.int .i64 t.last.kind) ∧ h.cell ((b.add (((L.length : Int) - 1).toNat * 5)).add 1) = some (.int .i64 t.last.thread) ∧ h.cell ((b.add (((L.length : Int) - 1).toNat * 5)).add 2) = some (.int .i64 t.last.obj) ∧
    h.cell ((b.add (((L.length : Int) - 1).toNat * 5)).add 3) = some (.int .i64 t.last.arg) ∧ h.cell ((b.add (((L.length : Int) - 1).toNat * 5)).add 4) = some (.int .i64 t.last.err) := by
  obtain ⟨e, he, hat⟩ := getLast_at hn
  have := I.last e he
  subst this
  obtain ⟨b, hb, hc⟩ := r.at_ _ _ hat
  have ee : ((L.length : Int) - 1).toNat = L.length - 1 := by omega
  have hl := I.len
  refine ⟨wrap64_id (by omega) (by omega), b, hb, ?_⟩
  rw [ee]
  exact ⟨hc 0 _ rfl, hc 1 _ rfl, hc 2 _ rfl, hc 3 _ rfl, hc 4 _ rfl⟩

set_option maxHeartbeats 2000000 in
theorem meets_commit {h : PH} {t : Th} {L : List Ev} (I : TI t L) {p : Option Addr} {c : Nat} (r : RecsAt evL 5 h p L) (e : Ev) :
    Meets Try.prog 67 #[.agg (aqL t p L.length c).toArray, .agg #[.int .i64 e.kind, .int .i64 e.thread, .int .i64 e.obj, .int .i64 e.arg, .int .i64 e.err]] h fun v h' => v = .bool (t.takes e) ∧ h' = h := by
  apply Meets.same
  apply P_ref15_commit_of
  unfold P_ref15_commit
  refine xNew_intro fun b2 h1 l1 n2 e2 => ?_
  refine xNew_intro fun b3 h2 l2 n3 e3 => ?_
  have f2 := l2 _ _ e2
  have lh := PH.le_trans l1 l2
  have a1 : h2.cell ((⟨b2, 0, none⟩ : Addr).add 1) = some (.bool t.opn) := by rw [cellAdd f2]; rfl
  have a5 : h2.cell ((⟨b2, 0, none⟩ : Addr).add 5) = some (.slice p L.length c) := by rw [cellAdd f2]; rfl
  have a20 : h2.cell (((⟨b2, 0, none⟩ : Addr).add 2).add 0) = some (.int .i64 t.op.kind) := by rw [add_mk, add_mk, cellAt f2]; rfl
  have a21 : h2.cell (((⟨b2, 0, none⟩ : Addr).add 2).add 1) = some (.int .i64 t.op.obj) := by rw [add_mk, add_mk, cellAt f2]; rfl
  have a22 : h2.cell (((⟨b2, 0, none⟩ : Addr).add 2).add 2) = some (.int .i64 t.op.arg) := by rw [add_mk, add_mk, cellAt f2]; rfl
  have v0 : h2.cell ((⟨b3, 0, none⟩ : Addr).add 0) = some (.int .i64 e.kind) := by rw [cellAdd e3]; rfl
  have v2 : h2.cell ((⟨b3, 0, none⟩ : Addr).add 2) = some (.int .i64 e.obj) := by rw [cellAdd e3]; rfl
  have v3 : h2.cell ((⟨b3, 0, none⟩ : Addr).add 3) = some (.int .i64 e.arg) := by rw [cellAdd e3]; rfl
  have r2 := r.le lh
  simp only [a1, oB_some]
  refine ⟨fun ho => ?_, fun ho => ?_⟩
  · exact ⟨by unfold Th.takes; rw [ho, Bool.true_or, if_pos rfl], lh⟩
  have hopn : t.opn = true := by simpa using ho
  obtain ⟨kd1, kd9⟩ := I.kind hopn
  simp only [a21, a20, oI_some]
  refine Go.Rf.xIte_split1 (fun (x : Int) h' => x = (if t.op.kind = 9 then 0 else t.op.obj) ∧ h' = h2) (fun x h' ⟨ex, eh⟩ => ?_) (fun hc K hK => hK _ _ ⟨by rw [if_pos (by simpa using hc)], rfl⟩) (fun hc K hK => hK _ _ ⟨by rw [if_neg (by simpa using hc)], rfl⟩)
  obtain rfl := eh.symm
  simp only [v2, oI_some]
  have hof : (e.obj != x || t.op.kind == 9 && e.arg != t.op.arg) = !t.of e := by
    rw [ex]; unfold Th.of
    by_cases h9 : t.op.kind = 9
    · rw [if_pos h9, if_pos h9]
      have : (t.op.kind == 9) = true := by simp [h9]
      rw [this, Bool.true_and, Bool.not_and]; rfl
    · rw [if_neg h9, if_neg h9]
      have : (t.op.kind == 9) = false := by simp [h9]
      rw [this, Bool.false_and, Bool.or_false]; rfl
  refine xSc_or (t.op.kind == 9 && e.arg != t.op.arg) (fun _ J hJ => ?_) ?_
  · simp only [a20, oI_some]
    refine xSc_and (e.arg != t.op.arg) (fun _ J hJ => ?_) hJ
    simp only [v3, a22, oI_some]
    exact hJ
  rw [hof]
  refine ⟨fun hc => ?_, fun hc => ?_⟩
  · exact ⟨by unfold Th.takes; rw [hc, Bool.or_true, if_pos rfl], lh⟩
  have htk : t.takes e = if t.op.kind = 4 then t.waits e else if t.op.kind = 5 ∨ t.op.kind = 6 then t.tells e else t.many == 0 && e.kind == commitOf t.op.kind := by
    unfold Th.takes; rw [hc, hopn]; rfl
  rw [htk]
  simp only [a5, oS_some, a20, oI_some]
  have hz : ((L.length : Int) == 0) = (t.many == 0) := by rw [I.many]
  refine xBlk_split (fun h' => t.op.kind ≠ 4 ∧ ¬(t.op.kind = 5 ∨ t.op.kind = 6) ∧ h' = h2) ?_ fun K hK => ?_
  · rintro _ ⟨n4, n56, rfl⟩
    rw [if_neg n4, if_neg n56]
    refine xDraw_le ?_
    rw [hz]
    refine xSc_and (e.kind == commitOf t.op.kind) (fun _ J hJ => ?_) ⟨rfl, lh⟩
    simp only [v0, a20, oI_some]
    refine (meets_own t.op.kind (by omega)).look ?_
    simp only [oI_some]
    exact ⟨PH.le_refl _, hJ⟩
  refine ⟨fun h4 => ?_, fun h4 => ?_⟩
  · have h4 := beq_iff_eq.1 h4
    rw [if_pos h4]
    refine ⟨fun hz0 => ?_, fun hz0 => ?_⟩
    · simp only [v0, oI_some]
      have hz0 : L.length = 0 := by have := beq_iff_eq.1 hz0; omega
      exact ⟨by unfold Th.waits; rw [if_pos (by rw [I.many]; omega)], lh⟩
    · have hz0 : L.length ≠ 0 := by intro x; rw [x] at hz0; cases hz0
      obtain ⟨hw, b, hb, k0, k1, k2, k3, k4⟩ := last_at I r2 hz0
      simp only [a5, oS_some, hw]
      refine ⟨b, hb, by omega, by omega, ?_⟩
      simp only [k0, k1, k2, k3, k4, oI_some]
      refine xBox rfl rfl rfl (by decide) (by simp [oneCell]) fun b7 h4' l4 n7 e7 => ?_
      have g3 := l4 _ _ e3
      have w0 : h4'.cell ((⟨b3, 0, none⟩ : Addr).add 0) = some (.int .i64 e.kind) := by rw [cellAdd g3]; rfl
      have m0 : h4'.cell ((⟨b7, 0, none⟩ : Addr).add 0) = some (.int .i64 t.last.kind) := by rw [cellAdd e7]; rfl
      have m4 : h4'.cell ((⟨b7, 0, none⟩ : Addr).add 4) = some (.int .i64 t.last.err) := by rw [cellAdd e7]; rfl
      simp only [m4, oI_some]
      refine xSc_and (t.last.kind == 4) (fun _ J hJ => by simp only [m0, oI_some]; exact hJ) ?_
      refine xSc_and (e.kind == 5 || e.kind == 6) (fun _ J hJ => ?_) ?_
      · simp only [w0, oI_some]
        exact xSc_or (e.kind == 6) (fun _ J hJ => by first | exact hJ | (simp only [w0, oI_some]; exact hJ)) hJ
      refine xSc_or (t.last.kind == 5 && e.kind == 6) (fun _ J hJ => ?_) ⟨?_, PH.le_trans lh l4⟩
      · simp only [m0, oI_some]
        exact xSc_and (e.kind == 6) (fun _ J hJ => by first | exact hJ | (simp only [w0, oI_some]; exact hJ)) hJ
      · unfold Th.waits
        rw [if_neg (by rw [I.many]; omega)]
        by_cases q : (t.last.kind == 4 && t.last.err == 0) = true
        · rw [if_pos q]
          simp only [Bool.and_eq_true, beq_iff_eq] at q
          simp [q.1, q.2]
        · rw [if_neg q]
          have : (t.last.err == 0 && t.last.kind == 4) = false := by
            rw [Bool.and_comm]; simpa using q
          rw [this, Bool.false_and, Bool.false_or]
  have n4 : t.op.kind ≠ 4 := by simpa using h4
  rw [if_neg n4]
  refine Go.Rf.xIte_split1 (fun (x : Bool) h' => x = (t.op.kind == 5 || t.op.kind == 6) ∧ h' = h2) (fun x h' ⟨ex, eh⟩ => ?_) (fun hc K hK => hK _ _ ⟨by rw [hc]; rfl, rfl⟩) (fun hc K hK => hK _ _ ⟨by rw [hc]; rfl, rfl⟩)
  obtain rfl := eh.symm
  refine ⟨fun h56 => ?_, fun h56 => hK _ ⟨n4, by rw [h56] at ex; simpa using ex.symm, rfl⟩⟩
  have h56 : t.op.kind = 5 ∨ t.op.kind = 6 := by rw [h56] at ex; simpa using ex.symm
  rw [if_pos h56]
  have hpos : decide ((L.length : Int) > 0) = decide (t.many > 0) := by rw [I.many]
  rw [hpos]
  refine xSc_and (t.last.kind != 7) (fun hp J hJ => ?_) ?_
  · have hz0 : L.length ≠ 0 := by have := of_decide_eq_true hp; rw [I.many] at this; omega
    obtain ⟨hw, b, hb, k0, k1, k2, k3, k4⟩ := last_at I r2 hz0
    simp only [a5, oS_some, hw]
    refine ⟨b, hb, by omega, by omega, ?_⟩
    simp only [k0, oI_some]
    exact hJ
  refine ⟨fun hc => ?_, fun hc => ?_⟩
  · exact ⟨by unfold Th.tells; rw [if_pos hc], lh⟩
  have hc' : ¬(decide (t.many > 0) && t.last.kind != 7) = true := by rw [hc]; simp
  simp only [v0, oI_some]
  refine ⟨fun h7 => ?_, fun h7 => ?_⟩
  · have h7 := beq_iff_eq.1 h7
    simp only [a20, oI_some]
    refine xSc_or ((L.length : Int) == 0) (fun _ J hJ => hJ) ⟨?_, lh⟩
    unfold Th.tells
    rw [if_neg hc', if_pos h7]
    congr 2
    rw [I.many, Bool.eq_iff_iff]; simp
  have n7 : e.kind ≠ 7 := by simpa using h7
  refine xDraw_le ?_
  simp only [v0, a20, oI_some]
  refine (meets_own t.op.kind (by omega)).look ?_
  simp only [oI_some]
  refine ⟨PH.le_refl _, fun hk => ?_, fun hk => ?_⟩
  · exact ⟨by unfold Th.tells; rw [if_neg hc', if_neg n7, if_pos hk], lh⟩
  have hk' : ¬(e.kind != commitOf t.op.kind) = true := by rw [hk]; simp
  refine Go.Rf.xIte_split1 (fun (x : Int) h'' => x = (if t.many > 0 then t.last.arg else -1) ∧ h'' = h2) (fun x h'' ⟨ex, eh⟩ => ?_) (fun hp K hK => ?_) (fun hp K hK => hK _ _ ⟨by rw [if_neg (of_decide_eq_false hp)], rfl⟩)
  · subst eh
    simp only [a20, oI_some]
    refine xSc_or (e.arg == x) (fun _ J hJ => by simp only [v3, oI_some]; exact hJ) ⟨?_, lh⟩
    unfold Th.tells
    rw [if_neg hc', if_neg n7, if_neg hk']
    by_cases h6 : t.op.kind = 6
    · rw [if_pos h6]; simp [h6]
    · rw [if_neg h6, ex]
      have : (t.op.kind == 6) = false := by simp [h6]
      rw [this, Bool.false_or]
      split <;> rfl
  · have hz0 : L.length ≠ 0 := by have := of_decide_eq_true hp; rw [I.many] at this; omega
    obtain ⟨hw, b, hb, k0, k1, k2, k3, k4⟩ := last_at I r2 hz0
    simp only [a5, oS_some, hw]
    refine ⟨b, hb, by omega, by omega, ?_⟩
    simp only [k3, oI_some]
    exact hK _ _ ⟨by rw [if_pos (by rw [I.many]; omega)], rfl⟩

set_option maxHeartbeats 1000000 in
theorem meets_told15 {h : PH} {t : Th} {L : List Ev} (I : TI t L) {p : Option Addr} {c : Nat} (r : RecsAt evL 5 h p L) :
    Meets Try.prog 68 #[.agg (aqL t p L.length c).toArray] h fun v h' => v = toldV t ∧ h' = h := by
  apply Meets.same
  apply P_ref15_told_of
  unfold P_ref15_told
  refine xNew_intro fun b1 h1 l1 n1 e1 => ?_
  have a1 : h1.cell ((⟨b1, 0, none⟩ : Addr).add 1) = some (.bool t.opn) := by rw [cellAdd e1]; rfl
  have a5 : h1.cell ((⟨b1, 0, none⟩ : Addr).add 5) = some (.slice p L.length c) := by rw [cellAdd e1]; rfl
  have r1 := r.le l1
  have hz : ((L.length : Int) == 0) = (t.many == 0) := by rw [I.many]
  simp only [a1, a5, oB_some, oS_some]
  refine xSc_or (t.many == 0) (fun _ J hJ => by rw [hz]; exact hJ) ⟨fun hc => ?_, fun hc => ?_⟩
  · exact ⟨by unfold toldV Th.told; rw [if_pos hc], l1⟩
  have hc' : ¬(!t.opn || t.many == 0) = true := by rw [hc]; simp
  have hopn : t.opn = true := by simp at hc; exact hc.1
  have hz0 : L.length ≠ 0 := by
    intro x
    rw [I.many, x] at hc
    simp at hc
  obtain ⟨hw, b, hb, k0, k1, k2, k3, k4⟩ := last_at I r1 hz0
  simp only [a5, oS_some, hw]
  refine ⟨b, hb, by omega, by omega, ?_⟩
  simp only [k0, k1, k2, k3, k4, oI_some]
  refine xBox rfl rfl rfl (by decide) (by simp [oneCell]) fun b6 h4 l4 n6 e6 => ?_
  have g1 := l4 _ _ e1
  have lh := PH.le_trans l1 l4
  have a20 : h4.cell (((⟨b1, 0, none⟩ : Addr).add 2).add 0) = some (.int .i64 t.op.kind) := by rw [add_mk, add_mk, cellAt g1]; rfl
  have m0 : h4.cell ((⟨b6, 0, none⟩ : Addr).add 0) = some (.int .i64 t.last.kind) := by rw [cellAdd e6]; rfl
  have m1 : h4.cell ((⟨b6, 0, none⟩ : Addr).add 1) = some (.int .i64 t.last.thread) := by rw [cellAdd e6]; rfl
  have m2 : h4.cell ((⟨b6, 0, none⟩ : Addr).add 2) = some (.int .i64 t.last.obj) := by rw [cellAdd e6]; rfl
  have m3 : h4.cell ((⟨b6, 0, none⟩ : Addr).add 3) = some (.int .i64 t.last.arg) := by rw [cellAdd e6]; rfl
  have m4 : h4.cell ((⟨b6, 0, none⟩ : Addr).add 4) = some (.int .i64 t.last.err) := by rw [cellAdd e6]; rfl
  simp only [a20, oI_some]
  have td : toldV t = if t.op.kind = 4 then .tuple #[.int .i64 0, .int .i64 t.last.err, .bool (t.last.kind == commitOf t.op.kind || t.last.kind == 4 && t.last.err != 0)]
      else if t.op.kind = 6 then .tuple #[.int .i64 (IntKind.wrap .i64 (t.many - 1)), .int .i64 t.last.err, .bool (t.last.kind == commitOf t.op.kind)]
      else if t.op.kind = 5 ∨ t.op.kind = 7 ∨ t.op.kind = 8 then .tuple #[.int .i64 t.last.arg, .int .i64 t.last.err, .bool (t.last.kind == commitOf t.op.kind)]
      else .tuple #[.int .i64 0, .int .i64 t.last.err, .bool (t.last.kind == commitOf t.op.kind)] := by
    unfold toldV Th.told
    rw [if_neg hc']
    split
    · rfl
    split
    · rfl
    split <;> rfl
  rw [td]
  refine xBlk_split (fun h' => t.op.kind ≠ 4 ∧ t.op.kind ≠ 5 ∧ t.op.kind ≠ 6 ∧ h' = h4) ?_ fun K hK => ?_
  · rintro _ ⟨q4, q5, q6, rfl⟩
    refine xDraw_le ?_
    simp only [a20, m0, m1, m2, m3, m4, oI_some]
    refine (meets_reply t.op.kind t.last).look ?_
    simp only [oI_some]
    refine ⟨PH.le_refl _, ?_, lh⟩
    obtain ⟨e, he, _⟩ := getLast_at hz0
    have hk := I.one hopn e he q4 q5 q6
    rw [← I.last e he] at hk
    rw [if_neg q4, if_neg q6, hk]
    by_cases h78 : t.op.kind = 7 ∨ t.op.kind = 8
    · rw [if_pos h78, if_pos (.inr h78)]; simp
    · rw [if_neg h78, if_neg (by omega)]; simp
  refine ⟨fun h4k => ?_, fun h4k => ?_⟩
  · have h4k := beq_iff_eq.1 h4k
    rw [if_pos h4k, h4k]
    refine xDraw_le ?_
    simp only [m0, m4, oI_some]
    refine xSc_or (t.last.kind == 4 && t.last.err != 0) (fun _ J hJ => ?_) ⟨rfl, lh⟩
    try simp only [m0, m4, oI_some]
    exact xSc_and (t.last.err != 0) (fun _ J hJ => by first | exact hJ | (simp only [m4, oI_some]; exact hJ)) hJ
  have q4 : t.op.kind ≠ 4 := by simpa using h4k
  refine ⟨fun h5k => ?_, fun h5k => ?_⟩
  · have h5k := beq_iff_eq.1 h5k
    rw [if_neg q4, if_neg (by omega), if_pos (.inl h5k), h5k]
    refine xDraw_le ?_
    simp only [m0, m3, m4, oI_some]
    exact ⟨rfl, lh⟩
  have q5 : t.op.kind ≠ 5 := by simpa using h5k
  refine ⟨fun h6k => ?_, fun h6k => ?_⟩
  · have h6k := beq_iff_eq.1 h6k
    rw [if_neg q4, if_pos h6k, h6k, I.many, hw]
    refine xDraw_le ?_
    simp only [m0, m4, oI_some]
    exact ⟨rfl, lh⟩
  have q6 : t.op.kind ≠ 6 := by simpa using h6k
  exact hK _ ⟨q4, q5, q6, rfl⟩

end Go.Gh

/-
  The document's model: who is told.
-/
set_option linter.unusedSimpArgs false
set_option linter.unusedVariables false
namespace Go.Rf
open Go Go.Md Go.Sx Go.Proofs Go.Proofs.Ytnnedfhpicdacaa

theorem is_rng {R : Rm} (hn : R.n ≤ 8) {t : Int} (hi : R.is t = true) : 0 ≤ t ∧ t < ((8 : Nat) : Int) := by
  unfold Rm.is at hi
  simp only [Bool.and_eq_true, decide_eq_true_eq] at hi
  omega

theorem meets_tell' {h : PH} {R : Rm} (w : R.Wf) (hn : R.n ≤ 8) (e : Ev) (ho : 0 ≤ e.obj ∧ e.obj < ((8 : Nat) : Int)) : Meets Try.prog 95 #[.agg (rmA R), .agg #[.int .i64 e.kind, .int .i64 e.thread, .int .i64 e.obj, .int .i64 e.arg, .int .i64 e.err]] h fun v h' => v = res (R.tell e) ∧ h' = h := by
  apply Meets.same
  apply P_ref14_Model_tell_of
  unfold P_ref14_Model_tell
  have o8 : e.obj.toNat < 8 := by omega
  refine Fx.start w fun b2 b3 b4 h1 f => ?_
  simp only [oI_some, oB_some, xIdxA_eq ho, f.x.m0, f.x.m1, f.x.m2, f.x.all, f.x.ow o8, f.x.ct o8, f.x.hs o8, f.y.e0, f.y.e1, f.y.e2, f.y.e3, f.y.e4]
  refine xDraw_le ?_
  simp only [oI_some, oB_some, xIdxA_eq ho, f.x.m0, f.x.m1, f.x.m2, f.x.all, f.x.ow o8, f.x.ct o8, f.x.hs o8, f.y.e0, f.y.e1, f.y.e2, f.y.e3, f.y.e4]
  refine xBlk_split (fun h' => R.tell e = (R, false) ∧ Fx h b2 b3 b4 R e h') (fun h' ⟨er, f⟩ => ?_) fun K hK => ?_
  · simp only [oI_some, oB_some, xIdxA_eq ho, f.x.m0, f.x.m1, f.x.m2, f.x.all, f.x.ow o8, f.x.ct o8, f.x.hs o8, f.y.e0, f.y.e1, f.y.e2, f.y.e3, f.y.e4]
    exact f.fin w fun h2 l => ⟨by rw [er]; rfl, l⟩
  refine ⟨fun h0 => ?_, fun h0 => ?_⟩
  · have h0 : e.kind = 7 := by simpa using h0
    have tl : R.tell e = if (e.err != 0 || !R.owns e || !R.is e.arg || (R.at' e.obj e.arg).waits == 0) = true then (R, false) else (R.setAt e.obj e.arg ⟨0, (R.at' e.obj e.arg).waits, 0⟩, true) := by unfold Rm.tell; rw [if_pos h0]
    refine xDraw_del b4 ?_
    simp only [oI_some, oB_some, xIdxA_eq ho, f.dx.m0, f.dx.m1, f.dx.m2, f.dx.all, f.dx.ow o8, f.dx.ct o8, f.dx.hs o8, f.dy.e0, f.dy.e1, f.dy.e2, f.dy.e3, f.dy.e4]
    refine xSc_or (!R.owns e) (fun _ J hJ => hJ) ?_
    refine xSc_or (!R.is e.arg) (fun _ J hJ => ?_) ?_
    · try simp only [oI_some, oB_some, xIdxA_eq ho, f.dx.m0, f.dx.m1, f.dx.m2, f.dx.all, f.dx.ow o8, f.dx.ct o8, f.dx.hs o8, f.dy.e0, f.dy.e1, f.dy.e2, f.dy.e3, f.dy.e4]
      refine (meets_is w e.arg).look ?_
      simp only [oB_some]
      exact ⟨PH.del_le _ _, hJ⟩
    refine xSc_or ((R.at' e.obj e.arg).waits == 0) (fun hb J hJ => ?_) ?_
    · have hi : R.is e.arg = true := by
        simp only [Bool.or_eq_false_iff, Bool.not_eq_false'] at hb; exact hb.2
      have ha := is_rng hn hi
      simp only [oI_some, oB_some, xIdxA_eq ho, f.dx.m0, f.dx.m1, f.dx.m2, f.dx.all, f.dx.ow o8, f.dx.ct o8, f.dx.hs o8, f.dy.e0, f.dy.e1, f.dy.e2, f.dy.e3, f.dy.e4, xIdxA_eq ha, f.dx.p0 o8 (show e.arg.toNat < 8 by omega)]
      exact hJ
    refine ⟨fun hc => ?_, fun hc => ?_⟩
    · simp only [oI_some, oB_some, xIdxA_eq ho, f.x.m0, f.x.m1, f.x.m2, f.x.all, f.x.ow o8, f.x.ct o8, f.x.hs o8, f.y.e0, f.y.e1, f.y.e2, f.y.e3, f.y.e4]
      refine f.fin w fun h2 l => ⟨?_, l⟩
      rw [tl, if_pos (show (e.err != 0 || !R.owns e || !R.is e.arg || (R.at' e.obj e.arg).waits == 0) = true from hc)]; rfl
    · have hc : (e.err != 0 || !R.owns e || !R.is e.arg || (R.at' e.obj e.arg).waits == 0) = false := hc
      have hi : R.is e.arg = true := by
        simp only [Bool.or_eq_false_iff, Bool.not_eq_false'] at hc; exact hc.1.2
      have ha := is_rng hn hi
      have a8 : e.arg.toNat < 8 := by omega
      refine xDraw_le ?_
      simp only [oI_some, oB_some, xIdxA_eq ho, f.x.m0, f.x.m1, f.x.m2, f.x.all, f.x.ow o8, f.x.ct o8, f.x.hs o8, f.y.e0, f.y.e1, f.y.e2, f.y.e3, f.y.e4, xIdxA_eq ha, f.x.p0 o8 a8]
      refine f.sat o8 a8 fun h2 _ f => ?_
      simp only [oI_some, oB_some, xIdxA_eq ho, f.x.m0, f.x.m1, f.x.m2, f.x.all, f.x.ow o8, f.x.ct o8, f.x.hs o8, f.y.e0, f.y.e1, f.y.e2, f.y.e3, f.y.e4]
      refine f.fin f.w fun h2 l => ⟨?_, l⟩
      rw [tl, if_neg (by rw [hc]; simp)]; rfl
  have n7 : ¬e.kind = 7 := by simpa using h0
  simp only [oI_some, oB_some, xIdxA_eq ho, f.x.m0, f.x.m1, f.x.m2, f.x.all, f.x.ow o8, f.x.ct o8, f.x.hs o8, f.y.e0, f.y.e1, f.y.e2, f.y.e3, f.y.e4]
  refine xSc_and (e.err == 9) (fun _ J hJ => by first | exact hJ | (simp only [oI_some, oB_some, xIdxA_eq ho, f.x.m0, f.x.m1, f.x.m2, f.x.all, f.x.ow o8, f.x.ct o8, f.x.hs o8, f.y.e0, f.y.e1, f.y.e2, f.y.e3, f.y.e4]; exact hJ)) ?_
  refine ⟨fun h0 => ?_, fun h0 => ?_⟩
  · have h0 : e.kind = 8 ∧ e.err = 9 := by simpa using h0
    have tl : R.tell e = (R, !R.owns e && e.arg == -1) := by unfold Rm.tell; rw [if_neg n7, if_pos h0]
    refine xDraw_del b4 ?_
    simp only [oI_some, oB_some, xIdxA_eq ho, f.dx.m0, f.dx.m1, f.dx.m2, f.dx.all, f.dx.ow o8, f.dx.ct o8, f.dx.hs o8, f.dy.e0, f.dy.e1, f.dy.e2, f.dy.e3, f.dy.e4]
    refine xSc_and (e.arg == -1) (fun _ J hJ => by first | exact hJ | (simp only [oI_some, oB_some, xIdxA_eq ho, f.dx.m0, f.dx.m1, f.dx.m2, f.dx.all, f.dx.ow o8, f.dx.ct o8, f.dx.hs o8, f.dy.e0, f.dy.e1, f.dy.e2, f.dy.e3, f.dy.e4]; exact hJ)) ?_
    exact f.finD w (PH.del_le _ _) fun h2 l => ⟨by rw [tl]; rfl, l⟩
  have n89 : ¬(e.kind = 8 ∧ e.err = 9) := by simpa using h0
  simp only [oI_some, oB_some, xIdxA_eq ho, f.x.m0, f.x.m1, f.x.m2, f.x.all, f.x.ow o8, f.x.ct o8, f.x.hs o8, f.y.e0, f.y.e1, f.y.e2, f.y.e3, f.y.e4]
  refine xSc_and (e.err == 0) (fun _ J hJ => by first | exact hJ | (simp only [oI_some, oB_some, xIdxA_eq ho, f.x.m0, f.x.m1, f.x.m2, f.x.all, f.x.ow o8, f.x.ct o8, f.x.hs o8, f.y.e0, f.y.e1, f.y.e2, f.y.e3, f.y.e4]; exact hJ)) ?_
  refine ⟨fun h0 => ?_, fun h0 => ?_⟩
  · have h0 : e.kind = 8 ∧ e.err = 0 := by simpa using h0
    have tl : R.tell e = (R, R.owns e && (R.is e.arg || e.arg == -1 && R.none' e.obj)) := by unfold Rm.tell; rw [if_neg n7, if_neg n89, if_pos h0]
    refine xDraw_del b4 ?_
    simp only [oI_some, oB_some, xIdxA_eq ho, f.dx.m0, f.dx.m1, f.dx.m2, f.dx.all, f.dx.ow o8, f.dx.ct o8, f.dx.hs o8, f.dy.e0, f.dy.e1, f.dy.e2, f.dy.e3, f.dy.e4]
    refine xSc_and (R.is e.arg || e.arg == -1 && R.none' e.obj) (fun _ J hJ => ?_) ?_
    · try simp only [oI_some, oB_some, xIdxA_eq ho, f.dx.m0, f.dx.m1, f.dx.m2, f.dx.all, f.dx.ow o8, f.dx.ct o8, f.dx.hs o8, f.dy.e0, f.dy.e1, f.dy.e2, f.dy.e3, f.dy.e4]
      refine (meets_is w e.arg).look ?_
      simp only [oB_some]
      refine ⟨PH.del_le _ _, ?_⟩
      refine xSc_or (e.arg == -1 && R.none' e.obj) (fun _ J hJ => ?_) hJ
      refine xSc_and (R.none' e.obj) (fun _ J hJ => ?_) hJ
      refine (meets_none w hn e.obj ho).look ?_
      simp only [oB_some]
      exact ⟨PH.del_le _ _, hJ⟩
    exact f.finD w (PH.del_le _ _) fun h2 l => ⟨by rw [tl]; rfl, l⟩
  have n80 : ¬(e.kind = 8 ∧ e.err = 0) := by simpa using h0
  simp only [oI_some, oB_some, xIdxA_eq ho, f.x.m0, f.x.m1, f.x.m2, f.x.all, f.x.ow o8, f.x.ct o8, f.x.hs o8, f.y.e0, f.y.e1, f.y.e2, f.y.e3, f.y.e4]
  refine xSc_and (e.err == 9) (fun _ J hJ => by first | exact hJ | (simp only [oI_some, oB_some, xIdxA_eq ho, f.x.m0, f.x.m1, f.x.m2, f.x.all, f.x.ow o8, f.x.ct o8, f.x.hs o8, f.y.e0, f.y.e1, f.y.e2, f.y.e3, f.y.e4]; exact hJ)) ?_
  refine ⟨fun h0 => ?_, fun h0 => ?_⟩
  · have h0 : e.kind = 9 ∧ e.err = 9 := by simpa using h0
    have tl : R.tell e = (R, !R.owns e && e.arg == 0) := by unfold Rm.tell; rw [if_neg n7, if_neg n89, if_neg n80, if_pos h0]
    refine xDraw_del b4 ?_
    simp only [oI_some, oB_some, xIdxA_eq ho, f.dx.m0, f.dx.m1, f.dx.m2, f.dx.all, f.dx.ow o8, f.dx.ct o8, f.dx.hs o8, f.dy.e0, f.dy.e1, f.dy.e2, f.dy.e3, f.dy.e4]
    refine xSc_and (e.arg == 0) (fun _ J hJ => by first | exact hJ | (simp only [oI_some, oB_some, xIdxA_eq ho, f.dx.m0, f.dx.m1, f.dx.m2, f.dx.all, f.dx.ow o8, f.dx.ct o8, f.dx.hs o8, f.dy.e0, f.dy.e1, f.dy.e2, f.dy.e3, f.dy.e4]; exact hJ)) ?_
    exact f.finD w (PH.del_le _ _) fun h2 l => ⟨by rw [tl]; rfl, l⟩
  have n99 : ¬(e.kind = 9 ∧ e.err = 9) := by simpa using h0
  simp only [oI_some, oB_some, xIdxA_eq ho, f.x.m0, f.x.m1, f.x.m2, f.x.all, f.x.ow o8, f.x.ct o8, f.x.hs o8, f.y.e0, f.y.e1, f.y.e2, f.y.e3, f.y.e4]
  refine xSc_and (e.err == 0) (fun _ J hJ => by first | exact hJ | (simp only [oI_some, oB_some, xIdxA_eq ho, f.x.m0, f.x.m1, f.x.m2, f.x.all, f.x.ow o8, f.x.ct o8, f.x.hs o8, f.y.e0, f.y.e1, f.y.e2, f.y.e3, f.y.e4]; exact hJ)) ?_
  refine ⟨fun h0 => ?_, fun h0 => ?_⟩
  · have h0 : e.kind = 9 ∧ e.err = 0 := by simpa using h0
    have tl : R.tell e = (R, R.owns e && (e.arg == 0 && R.none' e.obj)) := by unfold Rm.tell; rw [if_neg n7, if_neg n89, if_neg n80, if_neg n99, if_pos h0]
    refine xDraw_del b4 ?_
    simp only [oI_some, oB_some, xIdxA_eq ho, f.dx.m0, f.dx.m1, f.dx.m2, f.dx.all, f.dx.ow o8, f.dx.ct o8, f.dx.hs o8, f.dy.e0, f.dy.e1, f.dy.e2, f.dy.e3, f.dy.e4]
    refine xSc_and (e.arg == 0) (fun _ J hJ => by first | exact hJ | (simp only [oI_some, oB_some, xIdxA_eq ho, f.dx.m0, f.dx.m1, f.dx.m2, f.dx.all, f.dx.ow o8, f.dx.ct o8, f.dx.hs o8, f.dy.e0, f.dy.e1, f.dy.e2, f.dy.e3, f.dy.e4]; exact hJ)) ?_
    refine xSc_and (R.none' e.obj) (fun _ J hJ => ?_) ?_
    · refine (meets_none w hn e.obj ho).look ?_
      simp only [oB_some]
      exact ⟨PH.del_le _ _, hJ⟩
    refine f.finD w (PH.del_le _ _) fun h2 l => ⟨?_, l⟩
    rw [tl, ← Bool.and_assoc]; rfl
  have n90 : ¬(e.kind = 9 ∧ e.err = 0) := by simpa using h0
  exact hK _ ⟨by unfold Rm.tell; rw [if_neg n7, if_neg n89, if_neg n80, if_neg n99, if_neg n90], f⟩

end Go.Rf

/-
  The document's model: who waits.
-/
set_option linter.unusedSimpArgs false
set_option linter.unusedVariables false
namespace Go.Rf
open Go Go.Md Go.Sx Go.Proofs Go.Proofs.Ytnnedfhpicdacaa

theorem del_le_of {h h' : PH} {b : Nat} (k : ∀ x, x ≠ b → h' x = h x) : (h.del b).le h' := by
  intro x O hx
  rw [del_at] at hx
  split at hx
  · cases hx
  · rename_i n; rw [k x n]; exact hx

set_option maxHeartbeats 1000000 in
theorem meets_wait' {h : PH} {R : Rm} (w : R.Wf) (e : Ev) (ho : 0 ≤ e.obj ∧ e.obj < ((8 : Nat) : Int)) (ht : 0 ≤ e.thread ∧ e.thread < ((8 : Nat) : Int)) (hk : e.kind = 4 ∨ e.kind = 5 ∨ e.kind = 6) (he : 0 ≤ e.err ∧ e.err < 100) :
    Meets Try.prog 94 #[.agg (rmA R), .agg #[.int .i64 e.kind, .int .i64 e.thread, .int .i64 e.obj, .int .i64 e.arg, .int .i64 e.err]] h fun v h' => v = res (R.wait e) ∧ h' = h := by
  apply Meets.same
  apply P_ref14_Model_wait_of
  unfold P_ref14_Model_wait
  have o8 : e.obj.toNat < 8 := by omega
  have t8 : e.thread.toNat < 8 := by omega
  refine Fx.start w fun b2 b3 b4 h1 f => ?_
  refine xDraw_le ?_
  simp only [oI_some, oB_some, xIdxA_eq ho, f.x.m0, f.x.m1, f.x.m2, f.x.all, f.x.ow o8, f.x.ct o8, f.x.hs o8, f.y.e0, f.y.e1, f.y.e2, f.y.e3, f.y.e4, xIdxA_eq ht, f.x.p0 o8 t8, f.x.p1 o8 t8, f.x.p2 o8 t8]
  refine xBox rfl rfl rfl (by decide) (by simp [oneCell]) fun b9 h2 l2 n9 e9 => ?_
  have d9 : b9 ≠ b2 := fun x => by subst x; rw [f.m] at n9; cases n9
  have f := f.le l2
  have hcode : IntKind.wrap .i64 (IntKind.wrap .i64 (e.kind * 100) + e.err) = e.kind * 100 + e.err := by
    rw [wrap64_id (n := e.kind * 100) (by omega) (by omega)]
    exact wrap64_id (by omega) (by omega)
  simp only [oI_some, oB_some, xIdxA_eq ho, f.x.m0, f.x.m1, f.x.m2, f.x.all, f.x.ow o8, f.x.ct o8, f.x.hs o8, f.y.e0, f.y.e1, f.y.e2, f.y.e3, f.y.e4, hcode]
  refine xBlk_split (fun h' => R.wait e = (R, false) ∧ Fx h b2 b3 b4 R e h') (fun h' ⟨er, f⟩ => ?_) fun K hK => ?_
  · simp only [oI_some, oB_some, xIdxA_eq ho, f.x.m0, f.x.m1, f.x.m2, f.x.all, f.x.ow o8, f.x.ct o8, f.x.hs o8, f.y.e0, f.y.e1, f.y.e2, f.y.e3, f.y.e4]
    exact f.fin w fun h2 l => ⟨by rw [er]; rfl, l⟩
  have w4 : e.kind = 4 → R.wait e = (if e.err = 9 then (R, !R.owns e)
     else if e.err = 12 then (if (R.owns e && R.fl e.thread) = true then (R.setFl e.thread false, true) else (R, false))
     else if e.err = 11 then (R, R.owns e)
     else if e.err = 0 then (if R.owns e = true then ((((R.setAt e.obj e.thread { R.at' e.obj e.thread with waits := R.ct e.obj }).setOw e.obj 0).setCt e.obj 0), true) else (R, false))
     else (R, false)) := fun k => by unfold Rm.wait; rw [if_pos k]
  refine ⟨fun h0 => ?_, fun h0 => ?_⟩
  · have h0 : e.kind * 100 + e.err = 409 := by simpa using h0
    refine f.fin w fun h2 l => ⟨?_, l⟩
    rw [w4 (by omega), if_pos (by omega)]; rfl
  have n1 : ¬e.kind * 100 + e.err = 409 := by simpa using h0
  refine ⟨fun h0 => ?_, fun h0 => ?_⟩
  · have h0 : e.kind * 100 + e.err = 412 := by simpa using h0
    have we := w4 (by omega)
    rw [if_neg (show ¬e.err = 9 by omega), if_pos (show e.err = 12 by omega)] at we
    refine xSc_and (R.fl e.thread) (fun _ J hJ => by simp only [xIdxA_eq ht, f.x.fl t8, oB_some]; exact hJ) ?_
    refine xIte_split (fun h' => Fx h b2 b3 b4 (if (R.owns e && R.fl e.thread) = true then R.setFl e.thread false else R) e h') (fun h' f => ?_) (fun hc K hK => ?_) (fun hc K hK => ?_)
    · simp only [f.x.all]
      refine f.fin f.w fun h2 l => ⟨?_, l⟩
      rw [we]
      show Value.tuple #[.agg (rmA _), .bool (R.owns e && R.fl e.thread)] = _
      cases hb : (R.owns e && R.fl e.thread) <;> simp [hb, res]
    · try simp only [oI_some, oB_some, xIdxA_eq ho, f.x.m0, f.x.m1, f.x.m2, f.x.all, f.x.ow o8, f.x.ct o8, f.x.hs o8, f.y.e0, f.y.e1, f.y.e2, f.y.e3, f.y.e4, xIdxA_eq ht]
      refine f.sfl t8 fun h2 _ f => hK _ ?_
      rw [if_pos (show (R.owns e && R.fl e.thread) = true from hc)]; exact f
    · refine hK _ ?_
      rw [if_neg (by rw [show (R.owns e && R.fl e.thread) = false from hc]; simp)]; exact f
  have n2 : ¬e.kind * 100 + e.err = 412 := by simpa using h0
  refine ⟨fun h0 => ?_, fun h0 => ?_⟩
  · have h0 : e.kind * 100 + e.err = 411 := by simpa using h0
    refine f.fin w fun h2 l => ⟨?_, l⟩
    rw [w4 (by omega), if_neg (by omega), if_neg (by omega), if_pos (by omega)]; rfl
  have n3 : ¬e.kind * 100 + e.err = 411 := by simpa using h0
  refine ⟨fun h0 => ?_, fun h0 => ?_⟩
  · have h0 : e.kind * 100 + e.err = 400 := by simpa using h0
    have we := w4 (by omega)
    rw [if_neg (show ¬e.err = 9 by omega), if_neg (show ¬e.err = 12 by omega), if_neg (show ¬e.err = 11 by omega), if_pos (show e.err = 0 by omega)] at we
    refine ⟨fun hc => ?_, fun hc => ?_⟩
    · have hc : ¬R.owns e = true := by
        have : (!R.owns e) = true := hc
        simpa using this
      refine f.fin w fun h2 l => ⟨?_, l⟩
      rw [we, if_neg hc]; rfl
    · have hc : R.owns e = true := by
        have : (!R.owns e) = false := hc
        simpa using this
      refine xDraw_le ?_
      simp only [oI_some, oB_some, xIdxA_eq ho, f.x.m0, f.x.m1, f.x.m2, f.x.all, f.x.ow o8, f.x.ct o8, f.x.hs o8, f.y.e0, f.y.e1, f.y.e2, f.y.e3, f.y.e4, xIdxA_eq ht]
      refine f.swt o8 t8 fun h3 _ f => ?_
      refine f.sow o8 fun h4 _ f => ?_
      refine f.sct o8 fun h5 _ f => ?_
      simp only [f.x.all]
      refine f.fin f.w fun h2 l => ⟨?_, l⟩
      rw [we, if_pos hc]; rfl
  have n4 : ¬e.kind * 100 + e.err = 400 := by simpa using h0
  refine xIte_split1 (fun (x : Bool) h' => x = (e.kind * 100 + e.err == 513 || e.kind * 100 + e.err == 512) ∧ h' = h2) (fun x h' ⟨ex, eh⟩ => ?_) (fun hc K hK => hK _ _ ⟨by rw [hc]; rfl, rfl⟩) (fun hc K hK => hK _ _ ⟨by rw [hc]; rfl, rfl⟩)
  subst eh
  refine ⟨fun h0 => ?_, fun h0 => ?_⟩
  · have h0 : e.kind * 100 + e.err = 513 ∨ e.kind * 100 + e.err = 512 := by rw [h0] at ex; simpa using ex.symm
    have k5 : e.kind = 5 := by omega
    have we : R.wait e = if ((R.at' e.obj e.thread).waits == 0 || e.err == 12 && !R.fl e.thread) = true then (R, false) else (R.setAt e.obj e.thread ⟨0, (R.at' e.obj e.thread).waits, e.err⟩, true) := by
      unfold Rm.wait
      rw [if_neg (show ¬e.kind = 4 by omega), if_pos k5, if_pos (show e.err = 13 ∨ e.err = 12 by omega)]
    have c0 : h'.cell ((⟨b9, 0, none⟩ : Addr).add 0) = some (.int .i64 (R.at' e.obj e.thread).waits) := by rw [cellAdd e9]; rfl
    simp only [c0, oI_some]
    refine xSc_or (e.err == 12 && !R.fl e.thread) (fun _ J hJ => ?_) ?_
    · simp only [f.y.e4, oI_some]
      refine xSc_and (!R.fl e.thread) (fun _ J hJ => ?_) hJ
      simp only [xIdxA_eq ht, f.x.fl t8, oB_some]
      exact hJ
    refine ⟨fun hc => ?_, fun hc => ?_⟩
    · simp only [f.x.all]
      refine f.fin w fun h2 l => ⟨?_, l⟩
      rw [we, if_pos (show ((R.at' e.obj e.thread).waits == 0 || e.err == 12 && !R.fl e.thread) = true from hc)]; rfl
    · refine xDraw_le ?_
      simp only [c0, f.y.e4, oI_some, xIdxA_eq ho, xIdxA_eq ht]
      refine f.sat o8 t8 fun h3 _ f => ?_
      simp only [f.x.all]
      refine f.fin f.w fun h2 l => ⟨?_, l⟩
      rw [we, if_neg (by rw [show ((R.at' e.obj e.thread).waits == 0 || e.err == 12 && !R.fl e.thread) = false from hc]; simp)]; rfl
  have n5 : ¬(e.kind * 100 + e.err = 513 ∨ e.kind * 100 + e.err = 512) := by
    rw [h0] at ex
    have := ex.symm
    simp only [Bool.or_eq_false_iff, beq_eq_false_iff_ne, ne_eq] at this
    omega
  refine xIte_split1 (fun (x : Bool) h'' => x = (e.kind * 100 + e.err == 600 || (e.kind * 100 + e.err == 613 || e.kind * 100 + e.err == 612)) ∧ h'' = h') (fun x h'' ⟨ex, eh⟩ => ?_) (fun hc K hK => hK _ _ ⟨by rw [hc]; rfl, rfl⟩) (fun hc K hK => ?_)
  rotate_left
  · refine xIte_split1 (fun (x : Bool) h'' => x = (e.kind * 100 + e.err == 613 || e.kind * 100 + e.err == 612) ∧ h'' = h') (fun x h'' ⟨ex, eh⟩ => hK _ _ ⟨by rw [hc, ex]; rfl, eh⟩) (fun hc K hK => hK _ _ ⟨by rw [hc]; rfl, rfl⟩) (fun hc K hK => hK _ _ ⟨by rw [hc]; rfl, rfl⟩)
  subst eh
  refine ⟨fun h0 => ?_, fun h0 => ?_⟩
  · have h0 : e.kind * 100 + e.err = 600 ∨ e.kind * 100 + e.err = 613 ∨ e.kind * 100 + e.err = 612 := by rw [h0] at ex; simpa using ex.symm
    have k6 : e.kind = 6 := by omega
    have we : R.wait e = if (R.ow e.obj != 0 || (R.at' e.obj e.thread).left == 0 || (R.at' e.obj e.thread).why != e.err) = true then (R, false) else
        (if e.err = 12 then (((R.setAt e.obj e.thread pc0).setOw e.obj (Rm.w1 e.thread)).setCt e.obj (R.at' e.obj e.thread).left).setFl e.thread false else ((R.setAt e.obj e.thread pc0).setOw e.obj (Rm.w1 e.thread)).setCt e.obj (R.at' e.obj e.thread).left, true) := by
      unfold Rm.wait
      rw [if_neg (show ¬e.kind = 4 by omega), if_neg (show ¬e.kind = 5 by omega), if_pos k6, if_pos (show e.err = 0 ∨ e.err = 13 ∨ e.err = 12 by omega)]
    have c1 : ∀ {h' : PH}, h' b9 = h'' b9 → h'.cell ((⟨b9, 0, none⟩ : Addr).add 1) = some (.int .i64 (R.at' e.obj e.thread).left) := fun eq => by rw [cellAdd (eq.trans e9)]; rfl
    have c2 : h''.cell ((⟨b9, 0, none⟩ : Addr).add 2) = some (.int .i64 (R.at' e.obj e.thread).why) := by rw [cellAdd e9]; rfl
    simp only [oI_some, oB_some, xIdxA_eq ho, f.x.m0, f.x.m1, f.x.m2, f.x.all, f.x.ow o8, f.x.ct o8, f.x.hs o8, f.y.e0, f.y.e1, f.y.e2, f.y.e3, f.y.e4]
    refine xSc_or ((R.at' e.obj e.thread).left == 0) (fun _ J hJ => by simp only [c1 rfl, oI_some]; exact hJ) ?_
    refine xSc_or ((R.at' e.obj e.thread).why != e.err) (fun _ J hJ => by simp only [c2, f.y.e4, oI_some]; exact hJ) ?_
    refine ⟨fun hc => ?_, fun hc => ?_⟩
    · simp only [f.x.all]
      refine f.fin w fun h2 l => ⟨?_, l⟩
      rw [we, if_pos (show (R.ow e.obj != 0 || (R.at' e.obj e.thread).left == 0 || (R.at' e.obj e.thread).why != e.err) = true from hc)]; rfl
    · have hc : (R.ow e.obj != 0 || (R.at' e.obj e.thread).left == 0 || (R.at' e.obj e.thread).why != e.err) = false := hc
      rw [if_neg (by rw [hc]; simp)] at we
      simp only [oI_some, oB_some, xIdxA_eq ho, f.x.m0, f.x.m1, f.x.m2, f.x.all, f.x.ow o8, f.x.ct o8, f.x.hs o8, f.y.e0, f.y.e1, f.y.e2, f.y.e3, f.y.e4, xIdxA_eq ht]
      refine f.sat o8 t8 fun h3 k3 f => ?_
      refine xDraw_del b2 ?_
      have c3 : (h3.del b2).cell ((⟨b9, 0, none⟩ : Addr).add 1) = some (.int .i64 (R.at' e.obj e.thread).left) := c1 (by rw [del_at, if_neg d9]; exact k3 _ d9)
      simp only [c3, oI_some, xIdxA_eq ho]
      refine f.sow o8 fun h4 k4 f => ⟨del_le_of k4, ?_⟩
      refine f.sct o8 fun h5 k5 f => ?_
      simp only [f.y.e4, oI_some]
      refine xIte_split (fun h' => Fx h b2 b3 b4 (if e.err = 12 then (((R.setAt e.obj e.thread pc0).setOw e.obj (Rm.w1 e.thread)).setCt e.obj (R.at' e.obj e.thread).left).setFl e.thread false else ((R.setAt e.obj e.thread pc0).setOw e.obj (Rm.w1 e.thread)).setCt e.obj (R.at' e.obj e.thread).left) e h') (fun h' f => ?_) (fun hc K hK => ?_) (fun hc K hK => ?_)
      · simp only [f.x.all]
        refine f.fin f.w fun h2 l => ⟨?_, l⟩
        rw [we]; rfl
      · try simp only [xIdxA_eq ht]
        refine f.sfl t8 fun h2 _ f => hK _ ?_
        rw [if_pos (by simpa using hc)]; exact f
      · refine hK _ ?_
        rw [if_neg (by simpa using hc)]; exact f
  have n6 : ¬(e.kind * 100 + e.err = 600 ∨ e.kind * 100 + e.err = 613 ∨ e.kind * 100 + e.err = 612) := by
    rw [h0] at ex
    have := ex.symm
    simp only [Bool.or_eq_false_iff, beq_eq_false_iff_ne, ne_eq] at this
    omega
  refine hK _ ⟨?_, f⟩
  unfold Rm.wait
  rcases hk with k | k | k
  · rw [if_pos k, if_neg (by omega), if_neg (by omega), if_neg (by omega), if_neg (by omega)]
  · rw [if_neg (show ¬e.kind = 4 by omega), if_pos k, if_neg (by omega)]
  · rw [if_neg (show ¬e.kind = 4 by omega), if_neg (show ¬e.kind = 5 by omega), if_pos k, if_neg (by omega)]

end Go.Rf

/-
  The document's model goes with the program's: transition by transition.
-/
set_option linter.unusedSimpArgs false
set_option linter.unusedVariables false
namespace Go.Rf
open Go Go.Md Go.Sx Go.Proofs

section
variable {R : Rm} {s : Ms} {e : Ev}

theorem is_eq (S : Sim R s) (t : Int) : R.is t = s.isThread t := by
  unfold Rm.is Ms.isThread
  rw [S.n]
  have : decide (t < (s.flags.length : Int)) = decide (t ≤ (s.flags.length : Int) - 1) := by rw [decide_eq_decide]; omega
  rw [this]
theorem w1_eq {t : Int} (h : 0 ≤ t) (h8 : t.toNat < 8) : Rm.w1 t = t + 1 := wrap64_id (by omega) (by omega)
theorem owns_eq (S : Sim R s) (ho : s.isObj e.obj = true) (ht : s.isThread e.thread = true) : R.owns e = s.owns e := by
  obtain ⟨t0, t1, t8⟩ := thr_lt S.ok ht
  unfold Rm.owns Ms.owns
  rw [S.ow _ ho, w1_eq t0 t8, Bool.eq_iff_iff]
  simp only [beq_iff_eq]; omega
theorem other_eq (S : Sim R s) (ho : s.isObj e.obj = true) (ht : s.isThread e.thread = true) : R.other e = s.others e := by
  obtain ⟨t0, t1, t8⟩ := thr_lt S.ok ht
  unfold Rm.other Ms.others Ms.owns
  rw [S.ow _ ho, w1_eq t0 t8, Bool.eq_iff_iff]
  simp only [Bool.and_eq_true, bne_iff_ne, ne_eq, Bool.not_eq_true', beq_eq_false_iff_ne]; omega
theorem find_good {α : Type} {l : Pl α} {P : α → Prop} (g : ∀ p ∈ l, P p.2.2) {o t : Int} {x : α} (h : l.find o t = some x) : P x := by
  obtain ⟨p, hp, e⟩ := Pl.find_in h
  exact e ▸ g p hp
theorem wt_pos (S : Sim R s) {o t : Int} (ho : s.isObj o = true) (ht : s.isThread t = true) : decide ((R.at' o t).waits > 0) = (s.waits.find o t).isSome ∧ ((R.at' o t).waits == 0) = (s.waits.find o t).isNone := by
  rw [S.wt o t ho ht]
  cases h : s.waits.find o t with
  | none => simp
  | some x =>
    have := find_good (P := fun n => 1 ≤ n) (fun p hp => (S.g.wts p hp).2.2.1) h
    simp; omega
theorem lf_pos (S : Sim R s) {o t : Int} (ho : s.isObj o = true) (ht : s.isThread t = true) : decide ((R.at' o t).left > 0) = (s.left.find o t).isSome ∧ ((R.at' o t).left == 0) = (s.left.find o t).isNone := by
  rw [S.lf o t ho ht]
  cases h : s.left.find o t with
  | none => simp
  | some x =>
    have := find_good (P := fun n : Int × Int => 1 ≤ n.1) (fun p hp => (S.g.lfs p hp).2.2.1) h
    simp; omega
theorem isObj_nat {s : Ms} {o : Nat} (h : o < s.mons.length) : s.isObj (o : Int) = true := by
  simp [Ms.isObj]; omega
theorem isThread_nat {s : Ms} {o : Nat} (h : o < s.flags.length) : s.isThread (o : Int) = true := by
  simp [Ms.isThread]; omega
theorem gone_eq' (S : Sim R s) {t : Int} (ht : s.isThread t = true) : R.gone t = s.gone t := by
  unfold Rm.gone Ms.gone
  have : R.m.toNat = s.mons.length := by rw [S.m]; omega
  rw [this, Bool.eq_iff_iff, List.any_eq_true, List.any_eq_true]
  have each : ∀ o : Nat, o < s.mons.length → (decide ((R.at' o t).waits > 0) || decide ((R.at' o t).left > 0)) = ((s.waits.find o t).isSome || (s.left.find o t).isSome) := fun o ho => by
    rw [(wt_pos S (isObj_nat ho) ht).1, (lf_pos S (isObj_nat ho) ht).1]
  constructor
  · rintro ⟨o, ho, h⟩
    exact ⟨o, ho, by rw [← each o (by simpa using ho)]; exact h⟩
  · rintro ⟨o, ho, h⟩
    exact ⟨o, ho, by rw [each o (by simpa using ho)]; exact h⟩
theorem may_eq (S : Sim R s) : R.may e = s.may e := by
  unfold Rm.may Ms.may
  rw [is_eq S]
  have ob : (decide (e.obj < 0) || decide (e.obj ≥ R.m)) = !s.isObj e.obj := by
    rw [S.m, Bool.eq_iff_iff]
    simp only [Ms.isObj, Bool.or_eq_true, decide_eq_true_eq, Bool.not_eq_true', Bool.and_eq_false_iff, decide_eq_false_iff_not]
    omega
  cases ht : s.isThread e.thread with
  | false => simp
  | true =>
    rw [gone_eq' S ht]
    rw [show (!true || decide (e.obj < 0) || decide (e.obj ≥ R.m)) = !s.isObj e.obj from by rw [← ob]; simp]
    cases s.isObj e.obj <;> cases h5 : (e.kind == 5) <;> cases h6 : (e.kind == 6) <;> cases s.gone e.thread <;> simp [bne, h5, h6]
theorem none_eq (S : Sim R s) {o : Int} (ho : s.isObj o = true) : R.none' o = ((s.waiters o).length == 0) := by
  unfold Rm.none' Ms.waiters
  have hn : R.n.toNat = s.flags.length := by rw [S.n]; omega
  rw [hn, Bool.eq_iff_iff, List.all_eq_true]
  simp only [List.length_map, beq_iff_eq, List.length_eq_zero_iff, List.filter_eq_nil_iff]
  constructor
  · intro h p hp hc
    obtain ⟨g1, g2, g3, _⟩ := S.g.wts p hp
    have hc : p.1 = o := by simpa using hc
    obtain ⟨t0, t1, t8⟩ := thr_lt S.ok g2
    have := h p.2.1.toNat (by simpa using t1)
    have e1 : ((p.2.1.toNat : Nat) : Int) = p.2.1 := by omega
    rw [e1, (wt_pos S ho g2).1, ← hc, Pl.find_mem S.ok.once.w hp] at this
    simp at this
  · intro h t ht
    have ht : t < s.flags.length := by simpa using ht
    rw [(wt_pos S ho (isThread_nat ht)).1]
    cases hf : s.waits.find o t with
    | none => rfl
    | some x =>
      obtain ⟨p, hp, e1, _⟩ := Pl.find_key hf
      exact absurd (by simpa using e1) (h p hp)

/-- What a transition leaves. -/
def Goes (r : Rm × Bool) (o : Option Ms) : Prop := (∃ s', o = some s' ∧ r.2 = true ∧ Sim r.1 s') ∨ (o = none ∧ r.2 = false)
theorem Goes.look {R : Rm} {s : Ms} (S : Sim R s) {b : Bool} {o : Option Ms} (h : o = if b = true then some s else none) : Goes (R, b) o := by
  cases b with
  | true => exact .inl ⟨s, by simpa using h, rfl, S⟩
  | false => exact .inr ⟨by simpa using h, rfl⟩
theorem Goes.no {r : Rm × Bool} {o : Option Ms} (h : o = none) (hr : r.2 = false) : Goes r o := .inr ⟨h, hr⟩
theorem Goes.and {r : Rm × Bool} {o : Option Ms} (g : Goes r o) (b : Bool) : Goes (r.1, r.2 && b) (if b = true then o else none) := by
  cases b with
  | false => exact .inr ⟨by simp, by simp⟩
  | true => simpa using g

theorem count_ge (S : Sim R s) (ho : s.isObj e.obj = true) : decide (R.ct e.obj ≥ R.most) = ((s.mon e.obj).count == s.most) := by
  obtain ⟨g1, g2, g3, g4, _⟩ := S.g.own _ ho
  have := S.g.most
  rw [S.ct _ ho, S.most, Bool.eq_iff_iff]
  simp only [decide_eq_true_eq, beq_iff_eq]
  by_cases h : (s.mon e.obj).owner = -1
  · have := g3 h; omega
  · have := g4 h; omega
theorem ok_mon (S : Sim R s) (o : Int) (m : Mo) : (s.setMon o m).Ok := ⟨⟨S.ok.once.w, S.ok.once.l⟩, S.ok.why, by simp [Ms.setMon]; exact S.ok.nm, S.ok.nf, S.ok.rw, S.ok.rl⟩

theorem goes_enter (S : Sim R s) (ho : s.isObj e.obj = true) (ht : s.isThread e.thread = true) : Goes (R.enter e) (s.enter e) := by
  obtain ⟨t0, t1, t8⟩ := thr_lt S.ok ht
  obtain ⟨o0, o1, o8⟩ := obj_lt S.ok ho
  obtain ⟨g1, g2, g3, g4, g5⟩ := S.g.own _ ho
  have hm := S.g.most
  unfold Rm.enter Ms.enter
  rw [other_eq S ho ht, count_ge S ho]
  by_cases h0 : e.err = 0
  · rw [if_pos h0, if_pos h0]
    by_cases hc : (s.others e || (s.mon e.obj).count == s.most) = true
    · rw [if_pos hc, if_pos hc]; exact .no rfl rfl
    · rw [if_neg hc, if_neg hc]
      have hcnt : (s.mon e.obj).count < s.most ∧ 0 ≤ (s.mon e.obj).count := by
        simp only [Bool.or_eq_true, not_or, Bool.not_eq_true, beq_eq_false_iff_ne] at hc
        by_cases h : (s.mon e.obj).owner = -1
        · have := g3 h; omega
        · have := g4 h; have := hc.2; omega
      have hw : IntKind.wrap .i64 ((s.mon e.obj).count + 1) = (s.mon e.obj).count + 1 := wrap64_id (by omega) (by omega)
      rw [S.ct _ ho, hw, w1_eq t0 t8]
      refine .inl ⟨_, rfl, rfl, sim_mon S (ok_mon S _ _) ho ((S.wf.setOw _ _).setCt _ _) rfl rfl rfl rfl rfl ?_ ?_ ?_ ⟨by show -1 ≤ e.thread; omega, by show e.thread < _; omega, fun h => by have h : e.thread = -1 := h; omega, fun _ => ⟨by show 1 ≤ (s.mon e.obj).count + 1; omega, by show (s.mon e.obj).count + 1 ≤ s.most; omega⟩, g5⟩⟩
      · intro x hx; exact ow_set S.wf o0 o8 hx
      · intro x hx; exact ct_set (S.wf.setOw _ _) o0 o8 hx
      · intro x hx
        show R.hs x = if x = e.obj then (s.mon e.obj).hash else R.hs x
        by_cases ex : x = e.obj
        · rw [if_pos ex, ex, S.hs _ ho]
        · rw [if_neg ex]
  rw [if_neg h0, if_neg h0]
  by_cases h1 : e.err = 10
  · rw [if_pos h1, if_pos h1]
    have : (R.ow e.obj == Rm.w1 e.thread) = s.owns e := owns_eq S ho ht
    rw [this]
    exact .look S rfl
  rw [if_neg h1, if_neg h1]
  by_cases h2 : e.err = 11
  · rw [if_pos h2, if_pos h2]; exact .look S rfl
  rw [if_neg h2, if_neg h2]
  by_cases h3 : e.err = 14
  · rw [if_pos h3, if_pos h3]; exact .look S rfl
  rw [if_neg h3, if_neg h3]
  exact .no rfl rfl

theorem goes_exit (S : Sim R s) (ho : s.isObj e.obj = true) (ht : s.isThread e.thread = true) (hk : e.kind = 3) : Goes (R.act e) (if e.arg = 0 then s.exit e else none) := by
  obtain ⟨t0, t1, t8⟩ := thr_lt S.ok ht
  obtain ⟨o0, o1, o8⟩ := obj_lt S.ok ho
  obtain ⟨g1, g2, g3, g4, g5⟩ := S.g.own _ ho
  have hm := S.g.most
  unfold Rm.act
  rw [if_neg (by omega), if_pos hk, owns_eq S ho ht]
  by_cases ha : e.arg = 0
  · rw [if_pos ha]
    have ha' : (e.arg == 0) = true := by simp [ha]
    simp only [ha', Bool.true_and]
    unfold Ms.exit
    by_cases h9 : e.err = 9
    · rw [if_pos h9]
      have e0 : (e.err == 0) = false := by simp [h9]
      have e9 : (e.err == 9) = true := by simp [h9]
      simp only [e0, e9, Bool.false_and, Bool.false_or, Bool.true_and, Bool.and_false, Bool.false_eq_true, if_false]
      cases s.owns e with
      | true => exact .no rfl rfl
      | false => exact .inl ⟨s, rfl, rfl, S⟩
    · rw [if_neg h9]
      have e9 : (e.err == 9) = false := by simp [h9]
      simp only [e9, Bool.false_and, Bool.or_false]
      by_cases h0 : (e.err != 0 || !s.owns e) = true
      · rw [if_pos h0]
        have : (e.err == 0 && s.owns e) = false := by
          revert h0; cases hb : (e.err == 0) <;> cases s.owns e <;> simp [bne, hb]
        simp only [this, Bool.false_and, Bool.false_eq_true, if_false]
        exact .no rfl rfl
      · rw [if_neg h0]
        simp only [Bool.or_eq_true, not_or, bne_iff_ne, ne_eq, Decidable.not_not, Bool.not_eq_true, Bool.not_eq_false'] at h0
        obtain ⟨h0, hown⟩ := h0
        have hown : s.owns e = true := by simpa using hown
        simp only [h0, hown, beq_self_eq_true, Bool.and_self, if_true]
        have how : (s.mon e.obj).owner = e.thread := by simpa [Ms.owns] using hown
        have hne : (s.mon e.obj).owner ≠ -1 := by omega
        have hcnt := g4 hne
        have hw : IntKind.wrap .i64 ((s.mon e.obj).count - 1) = (s.mon e.obj).count - 1 := wrap64_id (by omega) (by omega)
        rw [S.ct _ ho, hw]
        have hc1 : (R.setCt e.obj ((s.mon e.obj).count - 1)).ct e.obj = (s.mon e.obj).count - 1 := by rw [ct_set S.wf o0 o8 o0, if_pos rfl]
        rw [hc1]
        refine .inl ⟨_, rfl, rfl, ?_⟩
        by_cases hz : (s.mon e.obj).count - 1 = 0
        · simp only [hz, if_true]
          refine sim_mon S (ok_mon S _ _) ho ((S.wf.setCt _ _).setOw _ _) rfl rfl rfl rfl rfl ?_ ?_ ?_ ⟨by simp, by simp; omega, fun _ => rfl, fun h => absurd rfl h, g5⟩
          · intro x hx
            rw [ow_set (S.wf.setCt _ _) o0 o8 hx]
            rfl
          · intro x hx; exact ct_set S.wf o0 o8 hx
          · intro x hx
            show R.hs x = if x = e.obj then (s.mon e.obj).hash else R.hs x
            by_cases ex : x = e.obj
            · rw [if_pos ex, ex, S.hs _ ho]
            · rw [if_neg ex]
        · simp only [hz, if_false]
          refine sim_mon S (ok_mon S _ _) ho (S.wf.setCt _ _) rfl rfl rfl rfl rfl ?_ ?_ ?_ ⟨g1, g2, fun h => absurd h hne, fun _ => ⟨by show 1 ≤ (s.mon e.obj).count - 1; omega, by show (s.mon e.obj).count - 1 ≤ s.most; omega⟩, g5⟩
          · intro x hx
            show R.ow x = if x = e.obj then (s.mon e.obj).owner + 1 else R.ow x
            by_cases ex : x = e.obj
            · rw [if_pos ex, ex, S.ow _ ho]
            · rw [if_neg ex]
          · intro x hx; exact ct_set S.wf o0 o8 hx
          · intro x hx
            show R.hs x = if x = e.obj then (s.mon e.obj).hash else R.hs x
            by_cases ex : x = e.obj
            · rw [if_pos ex, ex, S.hs _ ho]
            · rw [if_neg ex]
  · rw [if_neg ha]
    have : (e.arg == 0) = false := by simpa using ha
    simp only [this, Bool.false_and, Bool.false_eq_true, if_false]
    exact .no rfl rfl

end
end Go.Rf
