/- The readings of some functions, printed by a program of the session (wip/tools/sx.py): each by one equation that the kernel reckons. -/
import Derived.Test.YtnnedfhpicdacaaRows
import Derived.Test.YtnnedfhpicdacaaFM
set_option linter.unusedVariables false
namespace Go.Proofs.Ytnnedfhpicdacaa
open Go Go.Sx Go.Proofs
/-- futtock/futtocklaw23.alive -/
def A_law23_alive : Ann := .seq (.leaf) (.seq (.leaf) (.seq (.leaf) (.seq (.leaf) (.seq (.leaf) (.seq (.leaf) (.seq (.leaf) (.leaf)))))))
def P_law23_alive  (h : PH) (Q : Value → PH → Prop) : Prop :=
 xNew h (.cells #[(.int .i64 0), (.int .i64 0), (.int .i64 0), (.int .i64 0), (.int .i64 0), (.int .i64 0), (.int .i64 0)] 61 (0, 0)) fun b1 h_1 =>
 xSt 7 h_1 (⟨b1, 0, none⟩ : Addr) [(.int .i64 1), (.int .i64 0), (.int .i64 0), (.int .i64 0), (.int .i64 0), (.int .i64 0), (.int .i64 9)] fun h_2 =>
 xNew h_2 (.cells #[(.int .i64 0), (.int .i64 0), (.int .i64 0), (.int .i64 0), (.int .i64 0), (.int .i64 0), (.int .i64 0)] 61 (0, 0)) fun b2 h_3 =>
 xSt 7 h_3 (⟨b2, 0, none⟩ : Addr) [(.int .i64 1), (.int .i64 1), (.int .i64 0), (.int .i64 0), (.int .i64 0), (.int .i64 1), (.int .i64 9)] fun h_4 =>
 xNew h_4 (.cells #[(.int .i64 0), (.int .i64 0), (.int .i64 0), (.int .i64 0), (.int .i64 0), (.int .i64 0), (.int .i64 0)] 61 (0, 0)) fun b3 h_5 =>
 xSt 7 h_5 (⟨b3, 0, none⟩ : Addr) [(.int .i64 3), (.int .i64 0), (.int .i64 0), (.int .i64 0), (.int .i64 0), (.int .i64 2), (.int .i64 9)] fun h_6 =>
 oI .i64 (h_6.cell ((⟨b1, 0, none⟩ : Addr).add 0)) fun x15_0 =>
 oI .i64 (h_6.cell ((⟨b1, 0, none⟩ : Addr).add 1)) fun x15_1 =>
 oI .i64 (h_6.cell ((⟨b1, 0, none⟩ : Addr).add 2)) fun x15_2 =>
 oI .i64 (h_6.cell ((⟨b1, 0, none⟩ : Addr).add 3)) fun x15_3 =>
 oI .i64 (h_6.cell ((⟨b1, 0, none⟩ : Addr).add 4)) fun x15_4 =>
 oI .i64 (h_6.cell ((⟨b1, 0, none⟩ : Addr).add 5)) fun x15_5 =>
 oI .i64 (h_6.cell ((⟨b1, 0, none⟩ : Addr).add 6)) fun x15_6 =>
 oI .i64 (h_6.cell ((⟨b2, 0, none⟩ : Addr).add 0)) fun x16_0 =>
 oI .i64 (h_6.cell ((⟨b2, 0, none⟩ : Addr).add 1)) fun x16_1 =>
 oI .i64 (h_6.cell ((⟨b2, 0, none⟩ : Addr).add 2)) fun x16_2 =>
 oI .i64 (h_6.cell ((⟨b2, 0, none⟩ : Addr).add 3)) fun x16_3 =>
 oI .i64 (h_6.cell ((⟨b2, 0, none⟩ : Addr).add 4)) fun x16_4 =>
 oI .i64 (h_6.cell ((⟨b2, 0, none⟩ : Addr).add 5)) fun x16_5 =>
 oI .i64 (h_6.cell ((⟨b2, 0, none⟩ : Addr).add 6)) fun x16_6 =>
 xNew h_6 (.cells #[(.int .i64 x15_0), (.int .i64 x15_1), (.int .i64 x15_2), (.int .i64 x15_3), (.int .i64 x15_4), (.int .i64 x15_5), (.int .i64 x15_6), (.int .i64 x16_0), (.int .i64 x16_1), (.int .i64 x16_2), (.int .i64 x16_3), (.int .i64 x16_4), (.int .i64 x16_5), (.int .i64 x16_6)] 61 (0, 0)) fun b17 h_7 =>
 Meets Try.prog 25 #[(.int .i64 2), (.int .i64 1), (.int .i64 1), (.slice (some (⟨b17, 0, none⟩ : Addr)) 2 2)] h_7 fun v18 h_8 =>
 oTup v18 2 fun x18cs =>
 oIx x18cs[0]? fun x18w =>
 oB (some x18w) fun x18_0 =>
 oIx x18cs[1]? fun x18w_1 =>
 oI .i64 (some x18w_1) fun x18_1 =>
 oB (some (.bool x18_0)) fun x19 =>
 oI .i64 (some (.int .i64 x18_1)) fun x20 =>
 oI .i64 (h_8.cell ((⟨b2, 0, none⟩ : Addr).add 0)) fun x22_0 =>
 oI .i64 (h_8.cell ((⟨b2, 0, none⟩ : Addr).add 1)) fun x22_1 =>
 oI .i64 (h_8.cell ((⟨b2, 0, none⟩ : Addr).add 2)) fun x22_2 =>
 oI .i64 (h_8.cell ((⟨b2, 0, none⟩ : Addr).add 3)) fun x22_3 =>
 oI .i64 (h_8.cell ((⟨b2, 0, none⟩ : Addr).add 4)) fun x22_4 =>
 oI .i64 (h_8.cell ((⟨b2, 0, none⟩ : Addr).add 5)) fun x22_5 =>
 oI .i64 (h_8.cell ((⟨b2, 0, none⟩ : Addr).add 6)) fun x22_6 =>
 oI .i64 (h_8.cell ((⟨b1, 0, none⟩ : Addr).add 0)) fun x23_0 =>
 oI .i64 (h_8.cell ((⟨b1, 0, none⟩ : Addr).add 1)) fun x23_1 =>
 oI .i64 (h_8.cell ((⟨b1, 0, none⟩ : Addr).add 2)) fun x23_2 =>
 oI .i64 (h_8.cell ((⟨b1, 0, none⟩ : Addr).add 3)) fun x23_3 =>
 oI .i64 (h_8.cell ((⟨b1, 0, none⟩ : Addr).add 4)) fun x23_4 =>
 oI .i64 (h_8.cell ((⟨b1, 0, none⟩ : Addr).add 5)) fun x23_5 =>
 oI .i64 (h_8.cell ((⟨b1, 0, none⟩ : Addr).add 6)) fun x23_6 =>
 oI .i64 (h_8.cell ((⟨b3, 0, none⟩ : Addr).add 0)) fun x24_0 =>
 oI .i64 (h_8.cell ((⟨b3, 0, none⟩ : Addr).add 1)) fun x24_1 =>
 oI .i64 (h_8.cell ((⟨b3, 0, none⟩ : Addr).add 2)) fun x24_2 =>
 oI .i64 (h_8.cell ((⟨b3, 0, none⟩ : Addr).add 3)) fun x24_3 =>
 oI .i64 (h_8.cell ((⟨b3, 0, none⟩ : Addr).add 4)) fun x24_4 =>
 oI .i64 (h_8.cell ((⟨b3, 0, none⟩ : Addr).add 5)) fun x24_5 =>
 oI .i64 (h_8.cell ((⟨b3, 0, none⟩ : Addr).add 6)) fun x24_6 =>
 xNew h_8 (.cells #[(.int .i64 x22_0), (.int .i64 x22_1), (.int .i64 x22_2), (.int .i64 x22_3), (.int .i64 x22_4), (.int .i64 x22_5), (.int .i64 x22_6), (.int .i64 x23_0), (.int .i64 x23_1), (.int .i64 x23_2), (.int .i64 x23_3), (.int .i64 x23_4), (.int .i64 x23_5), (.int .i64 x23_6), (.int .i64 x24_0), (.int .i64 x24_1), (.int .i64 x24_2), (.int .i64 x24_3), (.int .i64 x24_4), (.int .i64 x24_5), (.int .i64 x24_6)] 61 (0, 0)) fun b25 h_9 =>
 Meets Try.prog 27 #[(.int .i64 2), (.int .i64 1), (.int .i64 1), (.slice (some (⟨b25, 0, none⟩ : Addr)) 3 3)] h_9 fun v26 h_10 =>
 oTup v26 2 fun x26cs =>
 oIx x26cs[0]? fun x26w =>
 oS (some x26w) fun x26_0a x26_0l x26_0c =>
 oIx x26cs[1]? fun x26w_1 =>
 oI .i64 (some x26w_1) fun x26_1 =>
 oS (some (.slice x26_0a x26_0l x26_0c)) fun x27a x27l x27c =>
 oI .i64 (some (.int .i64 x26_1)) fun x28 =>
 xSc (!x19) true (fun J_1 =>
 J_1 (x20 == 0) h_10)
 (fun r34 h_11 =>
 xSc r34 true (fun J_2 =>
 J_2 (x28 == 0) h_11)
 (fun r38 h_12 =>
 xSc r38 true (fun J_3 =>
 J_3 (((x27l : Nat) : Int) == 3) h_12)
 (fun r43 h_13 =>
 xSc r43 true (fun J_4 =>
 xIdx x27a x27l 0 1 fun x46 =>
 oI .i64 (h_13.cell x46) fun x47 =>
 J_4 (x47 == 1) h_13)
 (fun r49 h_14 =>
 xSc r49 true (fun J_5 =>
 xIdx x27a x27l 1 1 fun x52 =>
 oI .i64 (h_14.cell x52) fun x53 =>
 J_5 (x53 == 2) h_14)
 (fun r55 h_15 =>
 xSc r55 true (fun J_6 =>
 xIdx x27a x27l 2 1 fun x58 =>
 oI .i64 (h_15.cell x58) fun x59 =>
 J_6 (x59 == 0) h_15)
 (fun r61 h_16 =>
 Q (.bool r61) h_16) h_15) h_14) h_13) h_12) h_11) h_10
theorem P_law23_alive_eq  (h : PH) (Q : Value → PH → Prop) : dFn Try.prog Try.f24 A_law23_alive #[] h Q = P_law23_alive  h Q := by kernel_rfl
theorem P_law23_alive_of  {h : PH} {Q : Value → PH → Prop} (x : P_law23_alive  h Q) : Meets Try.prog 24 #[] h Q :=
  spec_of Try.func24 mix (by kernel_rfl) ((P_law23_alive_eq  h Q).symm ▸ x)
/-- futtock/check.Can -/
def A_check_Can : Ann := .seq (.leaf) (.seq (.leaf) (.seq (.leaf) (.leaf)))
def P_check_Can (a0 : Int) (a1 : Int) (a2 : Int) (a3a : Option Addr) (a3l : Nat) (a3c : Nat) (h : PH) (Q : Value → PH → Prop) : Prop :=
 Meets Try.prog 61 #[(.int .i64 a0), (.int .i64 a1), (.int .i64 a2), (.slice a3a a3l a3c)] h fun v18 h_1 =>
 oTup v18 3 fun x18cs =>
 oIx x18cs[0]? fun x18w =>
 oS (some x18w) fun x18_0a x18_0l x18_0c =>
 oIx x18cs[1]? fun x18w_1 =>
 oB (some x18w_1) fun x18_1 =>
 oIx x18cs[2]? fun x18w_2 =>
 oI .i64 (some x18w_2) fun x18_2 =>
 oS (some (.slice x18_0a x18_0l x18_0c)) fun x19a x19l x19c =>
 oB (some (.bool x18_1)) fun x20 =>
 oI .i64 (some (.int .i64 x18_2)) fun x21 =>
 Q (.tuple #[(.bool x20), (.int .i64 x21)]) h_1
theorem P_check_Can_eq (a0 : Int) (a1 : Int) (a2 : Int) (a3a : Option Addr) (a3l : Nat) (a3c : Nat) (h : PH) (Q : Value → PH → Prop) : dFn Try.prog Try.f25 A_check_Can #[(.int .i64 a0), (.int .i64 a1), (.int .i64 a2), (.slice a3a a3l a3c)] h Q = P_check_Can a0 a1 a2 a3a a3l a3c h Q := by kernel_rfl
theorem P_check_Can_of {a0 : Int} {a1 : Int} {a2 : Int} {a3a : Option Addr} {a3l : Nat} {a3c : Nat} {h : PH} {Q : Value → PH → Prop} (x : P_check_Can a0 a1 a2 a3a a3l a3c h Q) : Meets Try.prog 25 #[(.int .i64 a0), (.int .i64 a1), (.int .i64 a2), (.slice a3a a3l a3c)] h Q :=
  spec_of Try.func25 mix (by kernel_rfl) ((P_check_Can_eq a0 a1 a2 a3a a3l a3c h Q).symm ▸ x)
/-- futtock/futtocklaw23.theirs -/
def A_law23_theirs : Ann := .seq (.leaf) (.seq (.leaf) (.seq (.seq (.leaf) (.block [(3, .slice)] (.loop [(3, .slice), (9, (.int .i64))] (.seq (.leaf) (.seq (.cond [] (.leaf) (.leaf)) (.seq (.block [(3, .slice)] (.seq (.leaf) (.seq (.leaf) (.leaf)))) (.leaf))))))) (.seq (.leaf) (.leaf))))
def P_law23_theirs (a0a : Option Addr) (a0l : Nat) (a0c : Nat) (h : PH) (Q : Value → PH → Prop) : Prop :=
 xBlk (fun J_1 =>
 ∃ n, xLoopN (fun _ _ _ _ _ => False) (fun J_2 =>
 (fun (x3a : Option Addr) (x3l : Nat) (x3c : Nat) (x9 : Int) (h_1 : PH) =>
 xIte (decide ((x9 : Int) < ((a0l : Nat) : Int))) (fun J_3 =>
 J_3 h_1)
 (fun J_3 =>
 J_1 x3a x3l x3c h_1)
 (fun  (h_2 : PH) =>
 xBlk (fun J_4 =>
 xIdx a0a a0l x9 7 fun x11 =>
 oI .i64 (h_2.cell (x11.add 0)) fun x12_0 =>
 oI .i64 (h_2.cell (x11.add 1)) fun x12_1 =>
 oI .i64 (h_2.cell (x11.add 2)) fun x12_2 =>
 oI .i64 (h_2.cell (x11.add 3)) fun x12_3 =>
 oI .i64 (h_2.cell (x11.add 4)) fun x12_4 =>
 oI .i64 (h_2.cell (x11.add 5)) fun x12_5 =>
 oI .i64 (h_2.cell (x11.add 6)) fun x12_6 =>
 xNew h_2 (.cells #[(.int .i64 0), (.int .i64 0), (.int .i64 0), (.int .i64 0), (.int .i64 0), (.int .i64 0), (.int .i64 0)] 65 (0, 0)) fun b5 h_3 =>
 xSt 7 h_3 (⟨b5, 0, none⟩ : Addr) [(.int .i64 x12_0), (.int .i64 x12_1), (.int .i64 x12_2), (.int .i64 x12_3), (.int .i64 x12_4), (.int .i64 x12_5), (.int .i64 x12_6)] fun h_4 =>
 oI .i64 (h_4.cell (((⟨b5, 0, none⟩ : Addr).add 0).add 0)) fun x14_0 =>
 oI .i64 (h_4.cell (((⟨b5, 0, none⟩ : Addr).add 0).add 1)) fun x14_1 =>
 oI .i64 (h_4.cell (((⟨b5, 0, none⟩ : Addr).add 0).add 2)) fun x14_2 =>
 oI .i64 (h_4.cell (((⟨b5, 0, none⟩ : Addr).add 0).add 3)) fun x14_3 =>
 oI .i64 (h_4.cell (((⟨b5, 0, none⟩ : Addr).add 0).add 4)) fun x14_4 =>
 xNew h_4 (.cells #[(.int .i64 0), (.int .i64 0), (.int .i64 0), (.int .i64 0), (.int .i64 0)] 29 (0, 0)) fun b6 h_5 =>
 xSt 5 h_5 (⟨b6, 0, none⟩ : Addr) [(.int .i64 x14_0), (.int .i64 x14_1), (.int .i64 x14_2), (.int .i64 x14_3), (.int .i64 x14_4)] fun h_6 =>
 oI .i64 (h_6.cell ((⟨b6, 0, none⟩ : Addr).add 0)) fun x17 =>
 oI .i64 (h_6.cell ((⟨b6, 0, none⟩ : Addr).add 1)) fun x19 =>
 oI .i64 (h_6.cell ((⟨b6, 0, none⟩ : Addr).add 2)) fun x21 =>
 oI .i64 (h_6.cell ((⟨b6, 0, none⟩ : Addr).add 3)) fun x23 =>
 oI .i64 (h_6.cell ((⟨b6, 0, none⟩ : Addr).add 4)) fun x25 =>
 oI .i64 (h_6.cell ((⟨b5, 0, none⟩ : Addr).add 5)) fun x28 =>
 oI .i64 (h_6.cell ((⟨b5, 0, none⟩ : Addr).add 6)) fun x30 =>
 xNew h_6 (.cells #[(.int .i64 x17), (.int .i64 x19), (.int .i64 x21), (.int .i64 x23), (.int .i64 x25), (.int .i64 x28), (.int .i64 x30)] 61 (0, 0)) fun b32 h_7 =>
 xApp h_7 61 7 56 x3a x3l x3c (.slice (some (⟨b32, 0, none⟩ : Addr)) 1 1) fun x33a x33l x33c h_8 =>
 J_4 x33a x33l x33c h_8)
 (fun (x3a_1 : Option Addr) (x3l_1 : Nat) (x3c_1 : Nat) (h_9 : PH) =>
 J_2 x3a_1 x3l_1 x3c_1 (IntKind.wrap .i64 (x9 + 1)) h_9)))) n none 0 0 0 h)
 (fun (x3a_2 : Option Addr) (x3l_2 : Nat) (x3c_2 : Nat) (h_10 : PH) =>
 Q (.slice x3a_2 x3l_2 x3c_2) h_10)
theorem P_law23_theirs_eq (a0a : Option Addr) (a0l : Nat) (a0c : Nat) (h : PH) (Q : Value → PH → Prop) : dFn Try.prog Try.f26 A_law23_theirs #[(.slice a0a a0l a0c)] h Q = P_law23_theirs a0a a0l a0c h Q := by kernel_rfl
theorem P_law23_theirs_of {a0a : Option Addr} {a0l : Nat} {a0c : Nat} {h : PH} {Q : Value → PH → Prop} (x : P_law23_theirs a0a a0l a0c h Q) : Meets Try.prog 26 #[(.slice a0a a0l a0c)] h Q :=
  spec_of Try.func26 mix (by kernel_rfl) ((P_law23_theirs_eq a0a a0l a0c h Q).symm ▸ x)
/-- futtock/check.Order -/
def A_check_Order : Ann := .seq (.leaf) (.seq (.leaf) (.seq (.leaf) (.leaf)))
def P_check_Order (a0 : Int) (a1 : Int) (a2 : Int) (a3a : Option Addr) (a3l : Nat) (a3c : Nat) (h : PH) (Q : Value → PH → Prop) : Prop :=
 Meets Try.prog 61 #[(.int .i64 a0), (.int .i64 a1), (.int .i64 a2), (.slice a3a a3l a3c)] h fun v18 h_1 =>
 oTup v18 3 fun x18cs =>
 oIx x18cs[0]? fun x18w =>
 oS (some x18w) fun x18_0a x18_0l x18_0c =>
 oIx x18cs[1]? fun x18w_1 =>
 oB (some x18w_1) fun x18_1 =>
 oIx x18cs[2]? fun x18w_2 =>
 oI .i64 (some x18w_2) fun x18_2 =>
 oS (some (.slice x18_0a x18_0l x18_0c)) fun x19a x19l x19c =>
 oB (some (.bool x18_1)) fun x20 =>
 oI .i64 (some (.int .i64 x18_2)) fun x21 =>
 Q (.tuple #[(.slice x19a x19l x19c), (.int .i64 x21)]) h_1
theorem P_check_Order_eq (a0 : Int) (a1 : Int) (a2 : Int) (a3a : Option Addr) (a3l : Nat) (a3c : Nat) (h : PH) (Q : Value → PH → Prop) : dFn Try.prog Try.f27 A_check_Order #[(.int .i64 a0), (.int .i64 a1), (.int .i64 a2), (.slice a3a a3l a3c)] h Q = P_check_Order a0 a1 a2 a3a a3l a3c h Q := by kernel_rfl
theorem P_check_Order_of {a0 : Int} {a1 : Int} {a2 : Int} {a3a : Option Addr} {a3l : Nat} {a3c : Nat} {h : PH} {Q : Value → PH → Prop} (x : P_check_Order a0 a1 a2 a3a a3l a3c h Q) : Meets Try.prog 27 #[(.int .i64 a0), (.int .i64 a1), (.int .i64 a2), (.slice a3a a3l a3c)] h Q :=
  spec_of Try.func27 mix (by kernel_rfl) ((P_check_Order_eq a0 a1 a2 a3a a3l a3c h Q).symm ▸ x)
/-- futtock/check.May -/
def A_check_May : Ann := .seq (.leaf) (.seq (.seq (.leaf) (.cond [] (.seq (.leaf) (.leaf)) (.leaf))) (.seq (.seq (.leaf) (.block [] (.seq (.seq (.leaf) (.cond [(11, .bool)] (.leaf) (.seq (.leaf) (.cond [(11, .bool)] (.leaf) (.seq (.leaf) (.cond [(11, .bool)] (.leaf) (.seq (.leaf) (.cond [(11, .bool)] (.leaf) (.seq (.leaf) (.cond [(11, .bool)] (.leaf) (.leaf))))))))))) (.cond [] (.seq (.leaf) (.leaf)) (.seq (.leaf) (.cond [] (.seq (.leaf) (.leaf)) (.seq (.leaf) (.cond [] (.seq (.leaf) (.leaf)) (.leaf))))))))) (.seq (.leaf) (.leaf))))
def P_check_May (a0_0 : Int) (a0_1 : Int) (a0_2 : Int) (a0_3 : Int) (a0_4 : Int) (a0_5 : Int) (a0_6 : Int) (h : PH) (Q : Value → PH → Prop) : Prop :=
 xNew h (.cells #[(.int .i64 a0_0), (.int .i64 a0_1), (.int .i64 a0_2), (.int .i64 a0_3), (.int .i64 a0_4), (.int .i64 a0_5), (.int .i64 a0_6)] 61 (0, 0)) fun b1 h_1 =>
 oI .i64 (h_1.cell ((⟨b1, 0, none⟩ : Addr).add 5)) fun x4 =>
 oI .i64 (h_1.cell ((⟨b1, 0, none⟩ : Addr).add 6)) fun x6 =>
 xIte (decide ((x4 : Int) ≥ x6)) (fun J_1 =>
 Q (.bool false) h_1)
 (fun J_1 =>
 J_1 h_1)
 (fun  (h_2 : PH) =>
 oI .i64 (h_2.cell (((⟨b1, 0, none⟩ : Addr).add 0).add 0)) fun x10 =>
 xBlk (fun J_2 =>
 xIte (x10 == 1) (fun J_3 =>
 J_3 (x10 == 1) h_2)
 (fun J_3 =>
 xIte (x10 == 2) (fun J_4 =>
 J_4 (x10 == 2) h_2)
 (fun J_4 =>
 xIte (x10 == 3) (fun J_5 =>
 J_5 (x10 == 3) h_2)
 (fun J_5 =>
 xIte (x10 == 9) (fun J_6 =>
 J_6 (x10 == 9) h_2)
 (fun J_6 =>
 xIte (x10 == 11) (fun J_7 =>
 J_7 (x10 == 11) h_2)
 (fun J_7 =>
 J_7 (x10 == 12) h_2)
 (fun (x11 : Bool) (h_3 : PH) =>
 J_6 x11 h_3))
 (fun (x11_1 : Bool) (h_4 : PH) =>
 J_5 x11_1 h_4))
 (fun (x11_2 : Bool) (h_5 : PH) =>
 J_4 x11_2 h_5))
 (fun (x11_3 : Bool) (h_6 : PH) =>
 J_3 x11_3 h_6))
 (fun (x11_4 : Bool) (h_7 : PH) =>
 xIte x11_4 (fun J_8 =>
 Q (.bool true) h_7)
 (fun J_8 =>
 xIte (x10 == 8) (fun J_9 =>
 oI .i64 (h_7.cell (((⟨b1, 0, none⟩ : Addr).add 0).add 3)) fun x22 =>
 Q (.bool (x22 == (-1))) h_7)
 (fun J_9 =>
 xIte (x10 == 10) (fun J_10 =>
 oI .i64 (h_7.cell (((⟨b1, 0, none⟩ : Addr).add 0).add 4)) fun x28 =>
 Q (.bool (x28 == 0)) h_7)
 (fun J_10 =>
 J_10 h_7)
 (fun  (h_8 : PH) =>
 J_9 h_8))
 (fun  (h_9 : PH) =>
 J_8 h_9))
 (fun  (h_10 : PH) =>
 J_2 h_10)))
 (fun  (h_11 : PH) =>
 Q (.bool false) h_11))
theorem P_check_May_eq (a0_0 : Int) (a0_1 : Int) (a0_2 : Int) (a0_3 : Int) (a0_4 : Int) (a0_5 : Int) (a0_6 : Int) (h : PH) (Q : Value → PH → Prop) : dFn Try.prog Try.f29 A_check_May #[(.agg #[(.int .i64 a0_0), (.int .i64 a0_1), (.int .i64 a0_2), (.int .i64 a0_3), (.int .i64 a0_4), (.int .i64 a0_5), (.int .i64 a0_6)])] h Q = P_check_May a0_0 a0_1 a0_2 a0_3 a0_4 a0_5 a0_6 h Q := by kernel_rfl
theorem P_check_May_of {a0_0 : Int} {a0_1 : Int} {a0_2 : Int} {a0_3 : Int} {a0_4 : Int} {a0_5 : Int} {a0_6 : Int} {h : PH} {Q : Value → PH → Prop} (x : P_check_May a0_0 a0_1 a0_2 a0_3 a0_4 a0_5 a0_6 h Q) : Meets Try.prog 29 #[(.agg #[(.int .i64 a0_0), (.int .i64 a0_1), (.int .i64 a0_2), (.int .i64 a0_3), (.int .i64 a0_4), (.int .i64 a0_5), (.int .i64 a0_6)])] h Q :=
  spec_of Try.func29 mix (by kernel_rfl) ((P_check_May_eq a0_0 a0_1 a0_2 a0_3 a0_4 a0_5 a0_6 h Q).symm ▸ x)
/-- futtock/check.Serial -/
def A_check_Serial : Ann := .seq (.leaf) (.seq (.leaf) (.seq (.seq (.leaf) (.cond [] (.seq (.leaf) (.leaf)) (.leaf))) (.seq (.seq (.leaf) (.block [] (.loop [(25, (.int .i64))] (.seq (.leaf) (.seq (.cond [] (.leaf) (.leaf)) (.seq (.block [] (.seq (.leaf) (.seq (.leaf) (.cond [] (.seq (.leaf) (.leaf)) (.leaf))))) (.leaf))))))) (.seq (.leaf) (.leaf)))))
def P_check_Serial (a0 : Int) (a1 : Int) (a2 : Int) (a3a : Option Addr) (a3l : Nat) (a3c : Nat) (h : PH) (Q : Value → PH → Prop) : Prop :=
 Meets Try.prog 11 #[(.int .i64 a0), (.int .i64 a1), (.int .i64 a2)] h fun v18 h_1 =>
 oTup v18 2 fun x18cs =>
 oIx x18cs[0]? fun x18w =>
 oP (some x18w) fun x18_0 =>
 oIx x18cs[1]? fun x18w_1 =>
 oI .i64 (some x18w_1) fun x18_1 =>
 oP (some (.pointer x18_0)) fun x19 =>
 oI .i64 (some (.int .i64 x18_1)) fun x20 =>
 xIte (x20 != 0) (fun J_1 =>
 Q (.tuple #[(.int .i64 0), (.bool false)]) h_1)
 (fun J_1 =>
 J_1 h_1)
 (fun  (h_2 : PH) =>
 xBlk (fun J_2 =>
 ∃ n, xLoopN (fun _ _ => False) (fun J_3 =>
 (fun (x25 : Int) (h_3 : PH) =>
 xIte (decide ((x25 : Int) < ((a3l : Nat) : Int))) (fun J_4 =>
 J_4 h_3)
 (fun J_4 =>
 J_2 h_3)
 (fun  (h_4 : PH) =>
 xBlk (fun J_5 =>
 xIdx a3a a3l x25 7 fun x28 =>
 oI .i64 (h_4.cell (x28.add 0)) fun x29_0 =>
 oI .i64 (h_4.cell (x28.add 1)) fun x29_1 =>
 oI .i64 (h_4.cell (x28.add 2)) fun x29_2 =>
 oI .i64 (h_4.cell (x28.add 3)) fun x29_3 =>
 oI .i64 (h_4.cell (x28.add 4)) fun x29_4 =>
 oI .i64 (h_4.cell (x28.add 5)) fun x29_5 =>
 oI .i64 (h_4.cell (x28.add 6)) fun x29_6 =>
 xNew h_4 (.cells #[(.int .i64 0), (.int .i64 0), (.int .i64 0), (.int .i64 0), (.int .i64 0), (.int .i64 0), (.int .i64 0)] 61 (0, 0)) fun b13 h_5 =>
 xSt 7 h_5 (⟨b13, 0, none⟩ : Addr) [(.int .i64 x29_0), (.int .i64 x29_1), (.int .i64 x29_2), (.int .i64 x29_3), (.int .i64 x29_4), (.int .i64 x29_5), (.int .i64 x29_6)] fun h_6 =>
 oI .i64 (h_6.cell (((⟨b13, 0, none⟩ : Addr).add 0).add 0)) fun x32_0 =>
 oI .i64 (h_6.cell (((⟨b13, 0, none⟩ : Addr).add 0).add 1)) fun x32_1 =>
 oI .i64 (h_6.cell (((⟨b13, 0, none⟩ : Addr).add 0).add 2)) fun x32_2 =>
 oI .i64 (h_6.cell (((⟨b13, 0, none⟩ : Addr).add 0).add 3)) fun x32_3 =>
 oI .i64 (h_6.cell (((⟨b13, 0, none⟩ : Addr).add 0).add 4)) fun x32_4 =>
 Meets Try.prog 14 #[(.pointer x19), (.agg #[(.int .i64 x32_0), (.int .i64 x32_1), (.int .i64 x32_2), (.int .i64 x32_3), (.int .i64 x32_4)])] h_6 fun v33 h_7 =>
 oI .i64 (some v33) fun x33 =>
 xIte (x33 != 0) (fun J_6 =>
 Q (.tuple #[(.int .i64 x25), (.bool false)]) h_7)
 (fun J_6 =>
 J_6 h_7)
 (fun  (h_8 : PH) =>
 J_5 h_8))
 (fun  (h_9 : PH) =>
 J_3 (IntKind.wrap .i64 (x25 + 1)) h_9)))) n 0 h_2)
 (fun  (h_10 : PH) =>
 Q (.tuple #[(.int .i64 ((a3l : Nat) : Int)), (.bool true)]) h_10))
theorem P_check_Serial_eq (a0 : Int) (a1 : Int) (a2 : Int) (a3a : Option Addr) (a3l : Nat) (a3c : Nat) (h : PH) (Q : Value → PH → Prop) : dFn Try.prog Try.f31 A_check_Serial #[(.int .i64 a0), (.int .i64 a1), (.int .i64 a2), (.slice a3a a3l a3c)] h Q = P_check_Serial a0 a1 a2 a3a a3l a3c h Q := by kernel_rfl
theorem P_check_Serial_of {a0 : Int} {a1 : Int} {a2 : Int} {a3a : Option Addr} {a3l : Nat} {a3c : Nat} {h : PH} {Q : Value → PH → Prop} (x : P_check_Serial a0 a1 a2 a3a a3l a3c h Q) : Meets Try.prog 31 #[(.int .i64 a0), (.int .i64 a1), (.int .i64 a2), (.slice a3a a3l a3c)] h Q :=
  spec_of Try.func31 mix (by kernel_rfl) ((P_check_Serial_eq a0 a1 a2 a3a a3l a3c h Q).symm ▸ x)
/-- futtock/check.ask -/
def A_check_ask : Ann := .seq (.leaf) (.seq (.leaf) (.seq (.seq (.leaf) (.cond [] (.seq (.leaf) (.leaf)) (.leaf))) (.seq (.seq (.leaf) (.block [] (.loop [(29, (.int .i64))] (.seq (.leaf) (.seq (.cond [] (.leaf) (.leaf)) (.seq (.block [] (.seq (.leaf) (.seq (.leaf) (.cond [] (.seq (.leaf) (.leaf)) (.leaf))))) (.leaf))))))) (.seq (.seq (.leaf) (.cond [] (.seq (.leaf) (.leaf)) (.leaf))) (.seq (.leaf) (.seq (.leaf) (.seq (.leaf) (.leaf))))))))
def P_check_ask (a0 : Int) (a1 : Int) (a2 : Int) (a3a : Option Addr) (a3l : Nat) (a3c : Nat) (h : PH) (Q : Value → PH → Prop) : Prop :=
 Meets Try.prog 11 #[(.int .i64 a0), (.int .i64 a1), (.int .i64 a2)] h fun v22 h_1 =>
 oTup v22 2 fun x22cs =>
 oIx x22cs[0]? fun x22w =>
 oP (some x22w) fun x22_0 =>
 oIx x22cs[1]? fun x22w_1 =>
 oI .i64 (some x22w_1) fun x22_1 =>
 oP (some (.pointer x22_0)) fun x23 =>
 oI .i64 (some (.int .i64 x22_1)) fun x24 =>
 xIte (x24 != 0) (fun J_1 =>
 Q (.tuple #[(.slice none 0 0), (.bool false), (.int .i64 1)]) h_1)
 (fun J_1 =>
 J_1 h_1)
 (fun  (h_2 : PH) =>
 xBlk (fun J_2 =>
 ∃ n, xLoopN (fun _ _ => False) (fun J_3 =>
 (fun (x29 : Int) (h_3 : PH) =>
 xIte (decide ((x29 : Int) < ((a3l : Nat) : Int))) (fun J_4 =>
 J_4 h_3)
 (fun J_4 =>
 J_2 h_3)
 (fun  (h_4 : PH) =>
 xBlk (fun J_5 =>
 xIdx a3a a3l x29 7 fun x31 =>
 oI .i64 (h_4.cell (x31.add 0)) fun x32_0 =>
 oI .i64 (h_4.cell (x31.add 1)) fun x32_1 =>
 oI .i64 (h_4.cell (x31.add 2)) fun x32_2 =>
 oI .i64 (h_4.cell (x31.add 3)) fun x32_3 =>
 oI .i64 (h_4.cell (x31.add 4)) fun x32_4 =>
 oI .i64 (h_4.cell (x31.add 5)) fun x32_5 =>
 oI .i64 (h_4.cell (x31.add 6)) fun x32_6 =>
 xNew h_4 (.cells #[(.int .i64 0), (.int .i64 0), (.int .i64 0), (.int .i64 0), (.int .i64 0), (.int .i64 0), (.int .i64 0)] 61 (0, 0)) fun b14 h_5 =>
 xSt 7 h_5 (⟨b14, 0, none⟩ : Addr) [(.int .i64 x32_0), (.int .i64 x32_1), (.int .i64 x32_2), (.int .i64 x32_3), (.int .i64 x32_4), (.int .i64 x32_5), (.int .i64 x32_6)] fun h_6 =>
 oI .i64 (h_6.cell ((⟨b14, 0, none⟩ : Addr).add 0)) fun x33_0 =>
 oI .i64 (h_6.cell ((⟨b14, 0, none⟩ : Addr).add 1)) fun x33_1 =>
 oI .i64 (h_6.cell ((⟨b14, 0, none⟩ : Addr).add 2)) fun x33_2 =>
 oI .i64 (h_6.cell ((⟨b14, 0, none⟩ : Addr).add 3)) fun x33_3 =>
 oI .i64 (h_6.cell ((⟨b14, 0, none⟩ : Addr).add 4)) fun x33_4 =>
 oI .i64 (h_6.cell ((⟨b14, 0, none⟩ : Addr).add 5)) fun x33_5 =>
 oI .i64 (h_6.cell ((⟨b14, 0, none⟩ : Addr).add 6)) fun x33_6 =>
 Meets Try.prog 29 #[(.agg #[(.int .i64 x33_0), (.int .i64 x33_1), (.int .i64 x33_2), (.int .i64 x33_3), (.int .i64 x33_4), (.int .i64 x33_5), (.int .i64 x33_6)])] h_6 fun v34 h_7 =>
 oB (some v34) fun x34 =>
 xIte (!x34) (fun J_6 =>
 Q (.tuple #[(.slice none 0 0), (.bool false), (.int .i64 1)]) h_7)
 (fun J_6 =>
 J_6 h_7)
 (fun  (h_8 : PH) =>
 J_5 h_8))
 (fun  (h_9 : PH) =>
 J_3 (IntKind.wrap .i64 (x29 + 1)) h_9)))) n 0 h_2)
 (fun  (h_10 : PH) =>
 xIte (decide ((((a3l : Nat) : Int) : Int) > 12)) (fun J_7 =>
 Q (.tuple #[(.slice none 0 0), (.bool false), (.int .i64 5)]) h_10)
 (fun J_7 =>
 J_7 h_10)
 (fun  (h_11 : PH) =>
 Meets Try.prog 88 #[(.slice a3a a3l a3c)] h_11 fun v42 h_12 =>
 oS (some v42) fun x42a x42l x42c =>
 xNew h_12 (.map #[] 0) fun b43 h_13 =>
 xNew h_13 (.cells #[(.slice a3a a3l a3c), (.slice x42a x42l x42c), (.map (some b43))] 165 (0, 0)) fun b45 h_14 =>
 Meets Try.prog 89 #[(.pointer (some (⟨b45, 0, none⟩ : Addr))), (.int .u64 0), (.pointer x23)] h_14 fun v49 h_15 =>
 oTup v49 2 fun x49cs =>
 oIx x49cs[0]? fun x49w =>
 oS (some x49w) fun x49_0a x49_0l x49_0c =>
 oIx x49cs[1]? fun x49w_1 =>
 oB (some x49w_1) fun x49_1 =>
 oS (some (.slice x49_0a x49_0l x49_0c)) fun x50a x50l x50c =>
 oB (some (.bool x49_1)) fun x51 =>
 Q (.tuple #[(.slice x50a x50l x50c), (.bool x51), (.int .i64 0)]) h_15)))
theorem P_check_ask_eq (a0 : Int) (a1 : Int) (a2 : Int) (a3a : Option Addr) (a3l : Nat) (a3c : Nat) (h : PH) (Q : Value → PH → Prop) : dFn Try.prog Try.f61 A_check_ask #[(.int .i64 a0), (.int .i64 a1), (.int .i64 a2), (.slice a3a a3l a3c)] h Q = P_check_ask a0 a1 a2 a3a a3l a3c h Q := by kernel_rfl
theorem P_check_ask_of {a0 : Int} {a1 : Int} {a2 : Int} {a3a : Option Addr} {a3l : Nat} {a3c : Nat} {h : PH} {Q : Value → PH → Prop} (x : P_check_ask a0 a1 a2 a3a a3l a3c h Q) : Meets Try.prog 61 #[(.int .i64 a0), (.int .i64 a1), (.int .i64 a2), (.slice a3a a3l a3c)] h Q :=
  spec_of Try.func61 mix (by kernel_rfl) ((P_check_ask_eq a0 a1 a2 a3a a3l a3c h Q).symm ▸ x)
/-- futtock/check.ahead -/
def A_check_ahead : Ann := .seq (.leaf) (.seq (.leaf) (.seq (.seq (.leaf) (.block [(3, .slice)] (.loop [(3, .slice), (11, (.int .i64))] (.seq (.leaf) (.seq (.cond [] (.leaf) (.leaf)) (.seq (.block [(3, .slice)] (.seq (.leaf) (.seq (.leaf) (.seq (.seq (.leaf) (.block [(6, (.int .u64))] (.loop [(6, (.int .u64)), (17, (.int .i64))] (.seq (.leaf) (.seq (.cond [] (.leaf) (.leaf)) (.seq (.block [(6, (.int .u64))] (.seq (.leaf) (.seq (.leaf) (.cond [(6, (.int .u64))] (.leaf) (.leaf))))) (.leaf))))))) (.leaf))))) (.leaf))))))) (.seq (.leaf) (.leaf))))
def P_check_ahead (a0a : Option Addr) (a0l : Nat) (a0c : Nat) (h : PH) (Q : Value → PH → Prop) : Prop :=
 xBlk (fun J_1 =>
 ∃ n, xLoopN (fun _ _ _ _ _ => False) (fun J_2 =>
 (fun (x3a : Option Addr) (x3l : Nat) (x3c : Nat) (x11 : Int) (h_1 : PH) =>
 xIte (decide ((x11 : Int) < ((a0l : Nat) : Int))) (fun J_3 =>
 J_3 h_1)
 (fun J_3 =>
 J_1 x3a x3l x3c h_1)
 (fun  (h_2 : PH) =>
 xBlk (fun J_4 =>
 xIdx a0a a0l x11 7 fun x13 =>
 oI .i64 (h_2.cell (x13.add 0)) fun x14_0 =>
 oI .i64 (h_2.cell (x13.add 1)) fun x14_1 =>
 oI .i64 (h_2.cell (x13.add 2)) fun x14_2 =>
 oI .i64 (h_2.cell (x13.add 3)) fun x14_3 =>
 oI .i64 (h_2.cell (x13.add 4)) fun x14_4 =>
 oI .i64 (h_2.cell (x13.add 5)) fun x14_5 =>
 oI .i64 (h_2.cell (x13.add 6)) fun x14_6 =>
 xNew h_2 (.cells #[(.int .i64 0), (.int .i64 0), (.int .i64 0), (.int .i64 0), (.int .i64 0), (.int .i64 0), (.int .i64 0)] 61 (0, 0)) fun b5 h_3 =>
 xSt 7 h_3 (⟨b5, 0, none⟩ : Addr) [(.int .i64 x14_0), (.int .i64 x14_1), (.int .i64 x14_2), (.int .i64 x14_3), (.int .i64 x14_4), (.int .i64 x14_5), (.int .i64 x14_6)] fun h_4 =>
 xBlk (fun J_5 =>
 ∃ n_1, xLoopN (fun _ _ _ => False) (fun J_6 =>
 (fun (x6 : Int) (x17 : Int) (h_5 : PH) =>
 xIte (decide ((x17 : Int) < ((a0l : Nat) : Int))) (fun J_7 =>
 J_7 h_5)
 (fun J_7 =>
 J_5 x6 h_5)
 (fun  (h_6 : PH) =>
 xBlk (fun J_8 =>
 xIdx a0a a0l x17 7 fun x20 =>
 oI .i64 (h_6.cell (x20.add 0)) fun x21_0 =>
 oI .i64 (h_6.cell (x20.add 1)) fun x21_1 =>
 oI .i64 (h_6.cell (x20.add 2)) fun x21_2 =>
 oI .i64 (h_6.cell (x20.add 3)) fun x21_3 =>
 oI .i64 (h_6.cell (x20.add 4)) fun x21_4 =>
 oI .i64 (h_6.cell (x20.add 5)) fun x21_5 =>
 oI .i64 (h_6.cell (x20.add 6)) fun x21_6 =>
 xNew h_6 (.cells #[(.int .i64 0), (.int .i64 0), (.int .i64 0), (.int .i64 0), (.int .i64 0), (.int .i64 0), (.int .i64 0)] 61 (0, 0)) fun b8 h_7 =>
 xSt 7 h_7 (⟨b8, 0, none⟩ : Addr) [(.int .i64 x21_0), (.int .i64 x21_1), (.int .i64 x21_2), (.int .i64 x21_3), (.int .i64 x21_4), (.int .i64 x21_5), (.int .i64 x21_6)] fun h_8 =>
 oI .i64 (h_8.cell ((⟨b8, 0, none⟩ : Addr).add 6)) fun x23 =>
 oI .i64 (h_8.cell ((⟨b5, 0, none⟩ : Addr).add 5)) fun x25 =>
 xIte (decide ((x23 : Int) < x25)) (fun J_9 =>
 xShl .u64 1 x17 fun x29 =>
 J_9 (IntKind.wrap .u64 (BitVec.ofInt (IntKind.bits .u64) x6 ||| BitVec.ofInt (IntKind.bits .u64) x29).toNat) h_8)
 (fun J_9 =>
 J_9 x6 h_8)
 (fun (x6_1 : Int) (h_9 : PH) =>
 J_8 x6_1 h_9))
 (fun (x6_2 : Int) (h_10 : PH) =>
 J_6 x6_2 (IntKind.wrap .i64 (x17 + 1)) h_10)))) n_1 0 0 h_4)
 (fun (x6_3 : Int) (h_11 : PH) =>
 xNew h_11 (.cells #[(.int .u64 x6_3)] 167 (0, 0)) fun b34 h_12 =>
 xApp h_12 167 1 8 x3a x3l x3c (.slice (some (⟨b34, 0, none⟩ : Addr)) 1 1) fun x35a x35l x35c h_13 =>
 J_4 x35a x35l x35c h_13))
 (fun (x3a_1 : Option Addr) (x3l_1 : Nat) (x3c_1 : Nat) (h_14 : PH) =>
 J_2 x3a_1 x3l_1 x3c_1 (IntKind.wrap .i64 (x11 + 1)) h_14)))) n none 0 0 0 h)
 (fun (x3a_2 : Option Addr) (x3l_2 : Nat) (x3c_2 : Nat) (h_15 : PH) =>
 Q (.slice x3a_2 x3l_2 x3c_2) h_15)
theorem P_check_ahead_eq (a0a : Option Addr) (a0l : Nat) (a0c : Nat) (h : PH) (Q : Value → PH → Prop) : dFn Try.prog Try.f88 A_check_ahead #[(.slice a0a a0l a0c)] h Q = P_check_ahead a0a a0l a0c h Q := by kernel_rfl
theorem P_check_ahead_of {a0a : Option Addr} {a0l : Nat} {a0c : Nat} {h : PH} {Q : Value → PH → Prop} (x : P_check_ahead a0a a0l a0c h Q) : Meets Try.prog 88 #[(.slice a0a a0l a0c)] h Q :=
  spec_of Try.func88 mix (by kernel_rfl) ((P_check_ahead_eq a0a a0l a0c h Q).symm ▸ x)
/-- (*futtock/check.search).rest -/
def A_check_search_rest : Ann := .seq (.leaf) (.seq (.seq (.leaf) (.cond [] (.seq (.leaf) (.leaf)) (.leaf))) (.seq (.seq (.leaf) (.cond [] (.seq (.leaf) (.leaf)) (.leaf))) (.seq (.seq (.leaf) (.block [] (.loop [(31, (.int .i64))] (.seq (.leaf) (.seq (.cond [] (.leaf) (.leaf)) (.seq (.block [] (.seq (.leaf) (.seq (.seq (.leaf) (.cond [] (.leaf) (.leaf))) (.seq (.leaf) (.seq (.seq (.leaf) (.cond [] (.leaf) (.leaf))) (.seq (.leaf) (.seq (.leaf) (.cond [] (.seq (.leaf) (.leaf)) (.leaf))))))))) (.leaf))))))) (.seq (.draw [(0, .flt), (1, .flt), (2, .flt), (3, .flt), (4, .flt), (5, .flt), (6, .flt), (7, .flt), (8, .flt), (9, .flt), (10, .flt), (11, .flt), (12, .eff), (13, .eff), (14, .brk)]) (.seq (.leaf) (.leaf))))))
def P_check_search_rest (a0 : Option Addr) (a1 : Int) (a2 : Option Addr) (h : PH) (Q : Value → PH → Prop) : Prop :=
 xNn a0 fun x15 =>
 oS (h.cell (x15.add 0)) fun x17a x17l x17c =>
 xShl .u64 1 ((x17l : Nat) : Int) fun x19 =>
 xIte (a1 == (IntKind.wrap .u64 (x19 - 1))) (fun J_1 =>
 Q (.tuple #[(.slice none 0 0), (.bool true)]) h)
 (fun J_1 =>
 J_1 h)
 (fun  (h_1 : PH) =>
 Meets Try.prog 109 #[(.pointer a0), (.int .u64 a1), (.pointer a2)] h_1 fun v25 h_2 =>
 oB (some v25) fun x25 =>
 xIte x25 (fun J_2 =>
 Q (.tuple #[(.slice none 0 0), (.bool false)]) h_2)
 (fun J_2 =>
 J_2 h_2)
 (fun  (h_3 : PH) =>
 xNn a0 fun x27 =>
 oS (h_3.cell (x27.add 0)) fun x29a x29l x29c =>
 xBlk (fun J_3 =>
 ∃ n, xLoopN (fun _ _ => False) (fun J_4 =>
 (fun (x31 : Int) (h_4 : PH) =>
 xIte (decide ((x31 : Int) < ((x29l : Nat) : Int))) (fun J_5 =>
 J_5 h_4)
 (fun J_5 =>
 J_3 h_4)
 (fun  (h_5 : PH) =>
 xBlk (fun J_6 =>
 xIdx x29a x29l x31 7 fun x34 =>
 oI .i64 (h_5.cell (x34.add 0)) fun x35_0 =>
 oI .i64 (h_5.cell (x34.add 1)) fun x35_1 =>
 oI .i64 (h_5.cell (x34.add 2)) fun x35_2 =>
 oI .i64 (h_5.cell (x34.add 3)) fun x35_3 =>
 oI .i64 (h_5.cell (x34.add 4)) fun x35_4 =>
 oI .i64 (h_5.cell (x34.add 5)) fun x35_5 =>
 oI .i64 (h_5.cell (x34.add 6)) fun x35_6 =>
 xNew h_5 (.cells #[(.int .i64 0), (.int .i64 0), (.int .i64 0), (.int .i64 0), (.int .i64 0), (.int .i64 0), (.int .i64 0)] 61 (0, 0)) fun b9 h_6 =>
 xSt 7 h_6 (⟨b9, 0, none⟩ : Addr) [(.int .i64 x35_0), (.int .i64 x35_1), (.int .i64 x35_2), (.int .i64 x35_3), (.int .i64 x35_4), (.int .i64 x35_5), (.int .i64 x35_6)] fun h_7 =>
 xShr .u64 a1 x31 fun x38 =>
 xSc ((IntKind.wrap .u64 (BitVec.ofInt (IntKind.bits .u64) x38 &&& BitVec.ofInt (IntKind.bits .u64) 1).toNat) == 1) false (fun J_7 =>
 xNn a0 fun x43 =>
 oS (h_7.cell (x43.add 1)) fun x45a x45l x45c =>
 xIdx x45a x45l x31 1 fun x47 =>
 oI .u64 (h_7.cell x47) fun x48 =>
 J_7 ((IntKind.wrap .u64 (BitVec.ofInt (IntKind.bits .u64) x48 &&& ~~~(BitVec.ofInt (IntKind.bits .u64) a1)).toNat) != 0) h_7)
 (fun r52 h_8 =>
 xIte r52 (fun J_8 =>
 J_6 h_8)
 (fun J_8 =>
 J_8 h_8)
 (fun  (h_9 : PH) =>
 Meets Try.prog 13 #[(.pointer a2)] h_9 fun v54 h_10 =>
 oP (some v54) fun x54 =>
 oI .i64 (h_10.cell (((⟨b9, 0, none⟩ : Addr).add 0).add 0)) fun x57_0 =>
 oI .i64 (h_10.cell (((⟨b9, 0, none⟩ : Addr).add 0).add 1)) fun x57_1 =>
 oI .i64 (h_10.cell (((⟨b9, 0, none⟩ : Addr).add 0).add 2)) fun x57_2 =>
 oI .i64 (h_10.cell (((⟨b9, 0, none⟩ : Addr).add 0).add 3)) fun x57_3 =>
 oI .i64 (h_10.cell (((⟨b9, 0, none⟩ : Addr).add 0).add 4)) fun x57_4 =>
 Meets Try.prog 14 #[(.pointer x54), (.agg #[(.int .i64 x57_0), (.int .i64 x57_1), (.int .i64 x57_2), (.int .i64 x57_3), (.int .i64 x57_4)])] h_10 fun v58 h_11 =>
 oI .i64 (some v58) fun x58 =>
 xIte (x58 != 0) (fun J_9 =>
 J_6 h_11)
 (fun J_9 =>
 J_9 h_11)
 (fun  (h_12 : PH) =>
 xShl .u64 1 x31 fun x64 =>
 Meets Try.prog 89 #[(.pointer a0), (.int .u64 (IntKind.wrap .u64 (BitVec.ofInt (IntKind.bits .u64) a1 ||| BitVec.ofInt (IntKind.bits .u64) x64).toNat)), (.pointer x54)] h_12 fun v67 h_13 =>
 oTup v67 2 fun x67cs =>
 oIx x67cs[0]? fun x67w =>
 oS (some x67w) fun x67_0a x67_0l x67_0c =>
 oIx x67cs[1]? fun x67w_1 =>
 oB (some x67w_1) fun x67_1 =>
 oS (some (.slice x67_0a x67_0l x67_0c)) fun x68a x68l x68c =>
 oB (some (.bool x67_1)) fun x69 =>
 xIte x69 (fun J_10 =>
 xNew h_13 (.cells #[(.int .i64 x31)] 3 (0, 0)) fun b72 h_14 =>
 xApp h_14 3 1 8 (some (⟨b72, 0, none⟩ : Addr)) 1 1 (.slice x68a x68l x68c) fun x74a x74l x74c h_15 =>
 Q (.tuple #[(.slice x74a x74l x74c), (.bool true)]) h_15)
 (fun J_10 =>
 J_10 h_13)
 (fun  (h_16 : PH) =>
 J_6 h_16)))) h_7)
 (fun  (h_17 : PH) =>
 J_4 (IntKind.wrap .i64 (x31 + 1)) h_17)))) n 0 h_3)
 (fun  (h_18 : PH) =>
 xDraw h_18 fun hs_1 =>
 xNn a0 fun x77 =>
 oM (hs_1.cell (x77.add 2)) fun x79 =>
 xNn a0 fun x82 =>
 oM (hs_1.cell (x82.add 2)) fun x84 =>
 xLook Try.prog 167 hs_1 x84 (.int .u64 a1) fun x86o =>
 oS (some (Option.getD x86o (.slice none 0 0))) fun x86a x86l x86c =>
 xNew h_18 (.cells #[(.pointer a2)] 23 (0, 0)) fun b88 h_19 =>
 PH.le hs_1 h_19 ∧
 xApp h_19 23 1 8 x86a x86l x86c (.slice (some (⟨b88, 0, none⟩ : Addr)) 1 1) fun x89a x89l x89c h_20 =>
 PH.le hs_1 h_20 ∧
 xPut Try.prog 167 h_20 x79 (.int .u64 a1) (.slice x89a x89l x89c) fun h_21 =>
 Q (.tuple #[(.slice none 0 0), (.bool false)]) h_21)))
theorem P_check_search_rest_eq (a0 : Option Addr) (a1 : Int) (a2 : Option Addr) (h : PH) (Q : Value → PH → Prop) : dFn Try.prog Try.f89 A_check_search_rest #[(.pointer a0), (.int .u64 a1), (.pointer a2)] h Q = P_check_search_rest a0 a1 a2 h Q := by kernel_rfl
theorem P_check_search_rest_of {a0 : Option Addr} {a1 : Int} {a2 : Option Addr} {h : PH} {Q : Value → PH → Prop} (x : P_check_search_rest a0 a1 a2 h Q) : Meets Try.prog 89 #[(.pointer a0), (.int .u64 a1), (.pointer a2)] h Q :=
  spec_of Try.func89 mix (by kernel_rfl) ((P_check_search_rest_eq a0 a1 a2 h Q).symm ▸ x)
/-- (*futtock/check.search).isDead -/
def A_check_search_isDead : Ann := .seq (.leaf) (.seq (.seq (.leaf) (.block [] (.loop [(16, (.int .i64))] (.seq (.leaf) (.seq (.cond [] (.leaf) (.leaf)) (.seq (.block [] (.seq (.leaf) (.seq (.leaf) (.cond [] (.seq (.leaf) (.leaf)) (.leaf))))) (.leaf))))))) (.seq (.leaf) (.leaf)))
def P_check_search_isDead (a0 : Option Addr) (a1 : Int) (a2 : Option Addr) (h : PH) (Q : Value → PH → Prop) : Prop :=
 xNn a0 fun x10 =>
 oM (h.cell (x10.add 2)) fun x12 =>
 xLook Try.prog 167 h x12 (.int .u64 a1) fun x14o =>
 oS (some (Option.getD x14o (.slice none 0 0))) fun x14a x14l x14c =>
 xBlk (fun J_1 =>
 ∃ n, xLoopN (fun _ _ => False) (fun J_2 =>
 (fun (x16 : Int) (h_1 : PH) =>
 xIte (decide ((x16 : Int) < ((x14l : Nat) : Int))) (fun J_3 =>
 J_3 h_1)
 (fun J_3 =>
 J_1 h_1)
 (fun  (h_2 : PH) =>
 xBlk (fun J_4 =>
 xIdx x14a x14l x16 1 fun x18 =>
 oP (h_2.cell x18) fun x19 =>
 Meets Try.prog 16 #[(.pointer x19), (.pointer a2)] h_2 fun v22 h_3 =>
 oB (some v22) fun x22 =>
 xIte x22 (fun J_5 =>
 Q (.bool true) h_3)
 (fun J_5 =>
 J_5 h_3)
 (fun  (h_4 : PH) =>
 J_4 h_4))
 (fun  (h_5 : PH) =>
 J_2 (IntKind.wrap .i64 (x16 + 1)) h_5)))) n 0 h)
 (fun  (h_6 : PH) =>
 Q (.bool false) h_6)
theorem P_check_search_isDead_eq (a0 : Option Addr) (a1 : Int) (a2 : Option Addr) (h : PH) (Q : Value → PH → Prop) : dFn Try.prog Try.f109 A_check_search_isDead #[(.pointer a0), (.int .u64 a1), (.pointer a2)] h Q = P_check_search_isDead a0 a1 a2 h Q := by kernel_rfl
theorem P_check_search_isDead_of {a0 : Option Addr} {a1 : Int} {a2 : Option Addr} {h : PH} {Q : Value → PH → Prop} (x : P_check_search_isDead a0 a1 a2 h Q) : Meets Try.prog 109 #[(.pointer a0), (.int .u64 a1), (.pointer a2)] h Q :=
  spec_of Try.func109 mix (by kernel_rfl) ((P_check_search_isDead_eq a0 a1 a2 h Q).symm ▸ x)
/-- futtock/futtocklaw23.CheckEarlier -/
def A_law23_CheckEarlier : Ann := .seq (.leaf) (.seq (.seq (.leaf) (.cond [] (.seq (.leaf) (.leaf)) (.leaf))) (.seq (.leaf) (.seq (.leaf) (.seq (.seq (.leaf) (.cond [] (.seq (.leaf) (.leaf)) (.leaf))) (.seq (.leaf) (.seq (.leaf) (.seq (.seq (.leaf) (.block [] (.loop [(6, .slice), (40, (.int .i64))] (.seq (.leaf) (.seq (.cond [] (.leaf) (.leaf)) (.seq (.block [(6, .slice)] (.seq (.leaf) (.seq (.seq (.leaf) (.cond [] (.seq (.leaf) (.leaf)) (.leaf))) (.seq (.seq (.leaf) (.block [] (.loop [(59, (.int .i64))] (.seq (.leaf) (.seq (.cond [] (.leaf) (.leaf)) (.seq (.block [] (.seq (.leaf) (.seq (.draw [(0, .flt), (1, .flt), (2, .flt), (3, .flt), (4, .flt), (5, .flt), (6, .flt), (7, .flt), (8, .flt), (9, .flt), (10, .flt), (11, .flt), (12, .flt), (13, .flt), (14, .flt), (15, .flt), (16, .flt), (17, .flt), (18, .flt)]) (.cond [] (.seq (.leaf) (.leaf)) (.leaf))))) (.leaf))))))) (.seq (.leaf) (.seq (.leaf) (.seq (.seq (.leaf) (.seq (.leaf) (.cond [] (.seq (.leaf) (.leaf)) (.leaf)))) (.seq (.leaf) (.seq (.leaf) (.cond [] (.seq (.leaf) (.leaf)) (.leaf))))))))))) (.leaf))))))) (.seq (.leaf) (.leaf)))))))))
def P_law23_CheckEarlier (a0a : Option Addr) (a0l : Nat) (a0c : Nat) (h : PH) (Q : Value → PH → Prop) : Prop :=
 xIte (decide ((((a0l : Nat) : Int) : Int) > 8)) (fun J_1 =>
 Meets Try.prog 24 #[] h fun v19 h_1 =>
 oB (some v19) fun x19 =>
 Q (.bool x19) h_1)
 (fun J_1 =>
 J_1 h)
 (fun  (h_2 : PH) =>
 Meets Try.prog 26 #[(.slice a0a a0l a0c)] h_2 fun v21 h_3 =>
 oS (some v21) fun x21a x21l x21c =>
 Meets Try.prog 27 #[(.int .i64 3), (.int .i64 2), (.int .i64 3), (.slice x21a x21l x21c)] h_3 fun v24 h_4 =>
 oTup v24 2 fun x24cs =>
 oIx x24cs[0]? fun x24w =>
 oS (some x24w) fun x24_0a x24_0l x24_0c =>
 oIx x24cs[1]? fun x24w_1 =>
 oI .i64 (some x24w_1) fun x24_1 =>
 oS (some (.slice x24_0a x24_0l x24_0c)) fun x25a x25l x25c =>
 oI .i64 (some (.int .i64 x24_1)) fun x26 =>
 xSc (x26 != 0) false (fun J_2 =>
 J_2 (((x25l : Nat) : Int) != ((x21l : Nat) : Int)) h_4)
 (fun r35 h_5 =>
 xIte r35 (fun J_3 =>
 Meets Try.prog 24 #[] h_5 fun v36 h_6 =>
 oB (some v36) fun x36 =>
 Q (.bool x36) h_6)
 (fun J_3 =>
 J_3 h_5)
 (fun  (h_7 : PH) =>
 xNew h_7 (.map #[] 0) fun b37 h_8 =>
 xBlk (fun J_4 =>
 ∃ n, xLoopN (fun _ _ _ _ _ => False) (fun J_5 =>
 (fun (x6a : Option Addr) (x6l : Nat) (x6c : Nat) (x40 : Int) (h_9 : PH) =>
 xIte (decide ((x40 : Int) < ((x25l : Nat) : Int))) (fun J_6 =>
 J_6 h_9)
 (fun J_6 =>
 J_4 h_9)
 (fun  (h_10 : PH) =>
 xBlk (fun J_7 =>
 xIdx x25a x25l x40 1 fun x42 =>
 oI .i64 (h_10.cell x42) fun x43 =>
 xSc (decide ((x43 : Int) < 0)) false (fun J_8 =>
 J_8 (decide ((x43 : Int) ≥ ((x21l : Nat) : Int))) h_10)
 (fun r51 h_11 =>
 xSc r51 false (fun J_9 =>
 xLook Try.prog 3 h_11 (some b37) (.int .i64 x43) fun x55o =>
 oB (some (Option.getD x55o (.bool false))) fun x55 =>
 J_9 x55 h_11)
 (fun r56 h_12 =>
 xIte r56 (fun J_10 =>
 Q (.bool false) h_12)
 (fun J_10 =>
 J_10 h_12)
 (fun  (h_13 : PH) =>
 xBlk (fun J_11 =>
 ∃ n_1, xLoopN (fun _ _ => False) (fun J_12 =>
 (fun (x59 : Int) (h_14 : PH) =>
 xIte (decide ((x59 : Int) < ((x21l : Nat) : Int))) (fun J_13 =>
 J_13 h_14)
 (fun J_13 =>
 J_11 h_14)
 (fun  (h_15 : PH) =>
 xBlk (fun J_14 =>
 xIdx x21a x21l x59 7 fun x62 =>
 oI .i64 (h_15.cell (x62.add 0)) fun x63_0 =>
 oI .i64 (h_15.cell (x62.add 1)) fun x63_1 =>
 oI .i64 (h_15.cell (x62.add 2)) fun x63_2 =>
 oI .i64 (h_15.cell (x62.add 3)) fun x63_3 =>
 oI .i64 (h_15.cell (x62.add 4)) fun x63_4 =>
 oI .i64 (h_15.cell (x62.add 5)) fun x63_5 =>
 oI .i64 (h_15.cell (x62.add 6)) fun x63_6 =>
 xNew h_15 (.cells #[(.int .i64 0), (.int .i64 0), (.int .i64 0), (.int .i64 0), (.int .i64 0), (.int .i64 0), (.int .i64 0)] 61 (0, 0)) fun b11 h_16 =>
 xSt 7 h_16 (⟨b11, 0, none⟩ : Addr) [(.int .i64 x63_0), (.int .i64 x63_1), (.int .i64 x63_2), (.int .i64 x63_3), (.int .i64 x63_4), (.int .i64 x63_5), (.int .i64 x63_6)] fun h_17 =>
 xDraw h_17 fun hs_1 =>
 xLook Try.prog 3 hs_1 (some b37) (.int .i64 x59) fun x66o =>
 oB (some (Option.getD x66o (.bool false))) fun x66 =>
 xSc (!x66) true (fun J_15 =>
 J_15 (x59 != x43) h_17)
 (fun r72 h_18 =>
 xSc r72 true (fun J_16 =>
 oI .i64 (hs_1.cell ((⟨b11, 0, none⟩ : Addr).add 6)) fun x75 =>
 xIdx x21a x21l x43 7 fun x78 =>
 oI .i64 (hs_1.cell (x78.add 5)) fun x80 =>
 J_16 (decide ((x75 : Int) < x80)) h_18)
 (fun r82 h_19 =>
 xIte r82 (fun J_17 =>
 Q (.bool false) h_19)
 (fun J_17 =>
 J_17 h_19)
 (fun  (h_20 : PH) =>
 J_14 h_20)) h_18) h_17)
 (fun  (h_21 : PH) =>
 J_12 (IntKind.wrap .i64 (x59 + 1)) h_21)))) n_1 0 h_13)
 (fun  (h_22 : PH) =>
 xPut Try.prog 3 h_22 (some b37) (.int .i64 x43) (.bool true) fun h_23 =>
 xIdx x21a x21l x43 7 fun x89 =>
 oI .i64 (h_23.cell (x89.add 0)) fun x90_0 =>
 oI .i64 (h_23.cell (x89.add 1)) fun x90_1 =>
 oI .i64 (h_23.cell (x89.add 2)) fun x90_2 =>
 oI .i64 (h_23.cell (x89.add 3)) fun x90_3 =>
 oI .i64 (h_23.cell (x89.add 4)) fun x90_4 =>
 oI .i64 (h_23.cell (x89.add 5)) fun x90_5 =>
 oI .i64 (h_23.cell (x89.add 6)) fun x90_6 =>
 xNew h_23 (.cells #[(.int .i64 x90_0), (.int .i64 x90_1), (.int .i64 x90_2), (.int .i64 x90_3), (.int .i64 x90_4), (.int .i64 x90_5), (.int .i64 x90_6)] 61 (0, 0)) fun b91 h_24 =>
 xApp h_24 61 7 56 x6a x6l x6c (.slice (some (⟨b91, 0, none⟩ : Addr)) 1 1) fun x92a x92l x92c h_25 =>
 Meets Try.prog 31 #[(.int .i64 3), (.int .i64 2), (.int .i64 3), (.slice x92a x92l x92c)] h_25 fun v95 h_26 =>
 oTup v95 2 fun x95cs =>
 oIx x95cs[0]? fun x95w =>
 oI .i64 (some x95w) fun x95_0 =>
 oIx x95cs[1]? fun x95w_1 =>
 oB (some x95w_1) fun x95_1 =>
 oI .i64 (some (.int .i64 x95_0)) fun x96 =>
 oB (some (.bool x95_1)) fun x97 =>
 xSc (!x97) false (fun J_18 =>
 J_18 (x96 != ((x92l : Nat) : Int)) h_26)
 (fun r105 h_27 =>
 xIte r105 (fun J_19 =>
 Q (.bool false) h_27)
 (fun J_19 =>
 J_19 h_27)
 (fun  (h_28 : PH) =>
 Meets Try.prog 25 #[(.int .i64 3), (.int .i64 2), (.int .i64 3), (.slice x92a x92l x92c)] h_28 fun v108 h_29 =>
 oTup v108 2 fun x108cs =>
 oIx x108cs[0]? fun x108w =>
 oB (some x108w) fun x108_0 =>
 oIx x108cs[1]? fun x108w_1 =>
 oI .i64 (some x108w_1) fun x108_1 =>
 oB (some (.bool x108_0)) fun x109 =>
 oI .i64 (some (.int .i64 x108_1)) fun x110 =>
 xSc (!x109) false (fun J_20 =>
 J_20 (x110 != 0) h_29)
 (fun r116 h_30 =>
 xIte r116 (fun J_21 =>
 Q (.bool false) h_30)
 (fun J_21 =>
 J_21 h_30)
 (fun  (h_31 : PH) =>
 J_7 x92a x92l x92c h_31)) h_29)) h_26))) h_11) h_10)
 (fun (x6a_1 : Option Addr) (x6l_1 : Nat) (x6c_1 : Nat) (h_32 : PH) =>
 J_5 x6a_1 x6l_1 x6c_1 (IntKind.wrap .i64 (x40 + 1)) h_32)))) n none 0 0 0 h_8)
 (fun  (h_33 : PH) =>
 Meets Try.prog 24 #[] h_33 fun v118 h_34 =>
 oB (some v118) fun x118 =>
 Q (.bool x118) h_34))) h_4)
theorem P_law23_CheckEarlier_eq (a0a : Option Addr) (a0l : Nat) (a0c : Nat) (h : PH) (Q : Value → PH → Prop) : dFn Try.prog Try.f7 A_law23_CheckEarlier #[(.slice a0a a0l a0c)] h Q = P_law23_CheckEarlier a0a a0l a0c h Q := by kernel_rfl
theorem P_law23_CheckEarlier_of {a0a : Option Addr} {a0l : Nat} {a0c : Nat} {h : PH} {Q : Value → PH → Prop} (x : P_law23_CheckEarlier a0a a0l a0c h Q) : Meets Try.prog 7 #[(.slice a0a a0l a0c)] h Q :=
  spec_of Try.func7 mix (by kernel_rfl) ((P_law23_CheckEarlier_eq a0a a0l a0c h Q).symm ▸ x)
end Go.Proofs.Ytnnedfhpicdacaa
