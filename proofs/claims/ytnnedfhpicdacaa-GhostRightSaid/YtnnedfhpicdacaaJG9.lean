/- The readings of some functions, printed by a program of the session (wip/tools/sx.py): each by one equation that the kernel reckons. -/
import Derived.Test.YtnnedfhpicdacaaRows
import Derived.Test.YtnnedfhpicdacaaJG2
import Derived.Test.YtnnedfhpicdacaaJG3
import Derived.Test.YtnnedfhpicdacaaJG4
import Derived.Test.YtnnedfhpicdacaaJG5
import Derived.Test.YtnnedfhpicdacaaJG8

set_option linter.unusedVariables false
namespace Go.Proofs.Ytnnedfhpicdacaa
open Go Go.Sx Go.Proofs
/-- futtock/futtocklaw23.alive -/
def A_law23_alive : Ann := .seq (.leaf) (.seq (.leaf) (.seq (.leaf) (.seq (.leaf) (.seq (.leaf) (.seq (.leaf) (.seq (.leaf) (.leaf)))))))
def P_law23_alive  (h : PH) (Q : Value → PH → Prop) : Prop :=
 xNew h (.cells #[(.int .i64 0), (.int .i64 0), (.int .i64 0), (.int .i64 0), (.int .i64 0), (.int .i64 0), (.int .i64 0)] 61 (0, 0)) fun b1 h_1 =>
 xSt 7 h_1 (⟨b1, 0, none⟩ : Addr) [(.int .i64 1), (.int .i64 0), (.int .i64 0), (.int .i64 0), (.int .i64 0), (.int .i64 0), (.int .i64 9)] fun h_2 =>
 xNew h_2 (.cells #[(.int .i64 0), (.int .i64 0), (.int .i64 0), (.int .i64 0), (.int .i64 0), (.int .i64 0), (.int .i64 0)] 61 (0, 0)) fun b2 h_3 =>
 xSt 7 h_3 (⟨b2, 0, none⟩ : Addr) [(.int .i64 1), (.int .i64 1), (.int .i64 0), (.int .i64 0), (.int .i64 0), (.int .i64 1), (.int .i64 9)] fun h_4 =>
 xNew h_4 (.cells #[(.int .i64 0), (.int .i64 0), (.int .i64 0), (.int .i64 0), (.int .i64 0), (.int .i64 0), (.int .i64 0)] 61 (0, 0)) fun b3 h_5 =>
 xSt 7 h_5 (⟨b3, 0, none⟩ : Addr) [(.int .i64 3), (.int .i64 0), (.int .i64 0), (.int .i64 0), (.int .i64 0), (.int .i64 2), (.int .i64 9)] fun h_6 =>
 oI .i64 (h_6.cell ((⟨b1, 0, none⟩ : Addr).add 0)) fun x15_0 =>
 oI .i64 (h_6.cell ((⟨b1, 0, none⟩ : Addr).add 1)) fun x15_1 =>
 oI .i64 (h_6.cell ((⟨b1, 0, none⟩ : Addr).add 2)) fun x15_2 =>
 oI .i64 (h_6.cell ((⟨b1, 0, none⟩ : Addr).add 3)) fun x15_3 =>
 oI .i64 (h_6.cell ((⟨b1, 0, none⟩ : Addr).add 4)) fun x15_4 =>
 oI .i64 (h_6.cell ((⟨b1, 0, none⟩ : Addr).add 5)) fun x15_5 =>
 oI .i64 (h_6.cell ((⟨b1, 0, none⟩ : Addr).add 6)) fun x15_6 =>
 oI .i64 (h_6.cell ((⟨b2, 0, none⟩ : Addr).add 0)) fun x16_0 =>
 oI .i64 (h_6.cell ((⟨b2, 0, none⟩ : Addr).add 1)) fun x16_1 =>
 oI .i64 (h_6.cell ((⟨b2, 0, none⟩ : Addr).add 2)) fun x16_2 =>
 oI .i64 (h_6.cell ((⟨b2, 0, none⟩ : Addr).add 3)) fun x16_3 =>
 oI .i64 (h_6.cell ((⟨b2, 0, none⟩ : Addr).add 4)) fun x16_4 =>
 oI .i64 (h_6.cell ((⟨b2, 0, none⟩ : Addr).add 5)) fun x16_5 =>
 oI .i64 (h_6.cell ((⟨b2, 0, none⟩ : Addr).add 6)) fun x16_6 =>
 xNew h_6 (.cells #[(.int .i64 x15_0), (.int .i64 x15_1), (.int .i64 x15_2), (.int .i64 x15_3), (.int .i64 x15_4), (.int .i64 x15_5), (.int .i64 x15_6), (.int .i64 x16_0), (.int .i64 x16_1), (.int .i64 x16_2), (.int .i64 x16_3), (.int .i64 x16_4), (.int .i64 x16_5), (.int .i64 x16_6)] 61 (0, 0)) fun b17 h_7 =>
 Meets Try.prog 25 #[(.int .i64 2), (.int .i64 1), (.int .i64 1), (.slice (some (⟨b17, 0, none⟩ : Addr)) 2 2)] h_7 fun v18 h_8 =>
 oTup v18 2 fun x18cs =>
 oIx x18cs[0]? fun x18w =>
 oB (some x18w) fun x18_0 =>
 oIx x18cs[1]? fun x18w_1 =>
 oI .i64 (some x18w_1) fun x18_1 =>
 oB (some (.bool x18_0)) fun x19 =>
 oI .i64 (some (.int .i64 x18_1)) fun x20 =>
 oI .i64 (h_8.cell ((⟨b2, 0, none⟩ : Addr).add 0)) fun x22_0 =>
 oI .i64 (h_8.cell ((⟨b2, 0, none⟩ : Addr).add 1)) fun x22_1 =>
 oI .i64 (h_8.cell ((⟨b2, 0, none⟩ : Addr).add 2)) fun x22_2 =>
 oI .i64 (h_8.cell ((⟨b2, 0, none⟩ : Addr).add 3)) fun x22_3 =>
 oI .i64 (h_8.cell ((⟨b2, 0, none⟩ : Addr).add 4)) fun x22_4 =>
 oI .i64 (h_8.cell ((⟨b2, 0, none⟩ : Addr).add 5)) fun x22_5 =>
 oI .i64 (h_8.cell ((⟨b2, 0, none⟩ : Addr).add 6)) fun x22_6 =>
 oI .i64 (h_8.cell ((⟨b1, 0, none⟩ : Addr).add 0)) fun x23_0 =>
 oI .i64 (h_8.cell ((⟨b1, 0, none⟩ : Addr).add 1)) fun x23_1 =>
 oI .i64 (h_8.cell ((⟨b1, 0, none⟩ : Addr).add 2)) fun x23_2 =>
 oI .i64 (h_8.cell ((⟨b1, 0, none⟩ : Addr).add 3)) fun x23_3 =>
 oI .i64 (h_8.cell ((⟨b1, 0, none⟩ : Addr).add 4)) fun x23_4 =>
 oI .i64 (h_8.cell ((⟨b1, 0, none⟩ : Addr).add 5)) fun x23_5 =>
 oI .i64 (h_8.cell ((⟨b1, 0, none⟩ : Addr).add 6)) fun x23_6 =>
 oI .i64 (h_8.cell ((⟨b3, 0, none⟩ : Addr).add 0)) fun x24_0 =>
 oI .i64 (h_8.cell ((⟨b3, 0, none⟩ : Addr).add 1)) fun x24_1 =>
 oI .i64 (h_8.cell ((⟨b3, 0, none⟩ : Addr).add 2)) fun x24_2 =>
 oI .i64 (h_8.cell ((⟨b3, 0, none⟩ : Addr).add 3)) fun x24_3 =>
 oI .i64 (h_8.cell ((⟨b3, 0, none⟩ : Addr).add 4)) fun x24_4 =>
 oI .i64 (h_8.cell ((⟨b3, 0, none⟩ : Addr).add 5)) fun x24_5 =>
 oI .i64 (h_8.cell ((⟨b3, 0, none⟩ : Addr).add 6)) fun x24_6 =>
 xNew h_8 (.cells #[(.int .i64 x22_0), (.int .i64 x22_1), (.int .i64 x22_2), (.int .i64 x22_3), (.int .i64 x22_4), (.int .i64 x22_5), (.int .i64 x22_6), (.int .i64 x23_0), (.int .i64 x23_1), (.int .i64 x23_2), (.int .i64 x23_3), (.int .i64 x23_4), (.int .i64 x23_5), (.int .i64 x23_6), (.int .i64 x24_0), (.int .i64 x24_1), (.int .i64 x24_2), (.int .i64 x24_3), (.int .i64 x24_4), (.int .i64 x24_5), (.int .i64 x24_6)] 61 (0, 0)) fun b25 h_9 =>
 Meets Try.prog 27 #[(.int .i64 2), (.int .i64 1), (.int .i64 1), (.slice (some (⟨b25, 0, none⟩ : Addr)) 3 3)] h_9 fun v26 h_10 =>
 oTup v26 2 fun x26cs =>
 oIx x26cs[0]? fun x26w =>
 oS (some x26w) fun x26_0a x26_0l x26_0c =>
 oIx x26cs[1]? fun x26w_1 =>
 oI .i64 (some x26w_1) fun x26_1 =>
 oS (some (.slice x26_0a x26_0l x26_0c)) fun x27a x27l x27c =>
 oI .i64 (some (.int .i64 x26_1)) fun x28 =>
 xSc (!x19) true (fun J_1 =>
 J_1 (x20 == 0) h_10)
 (fun r34 h_11 =>
 xSc r34 true (fun J_2 =>
 J_2 (x28 == 0) h_11)
 (fun r38 h_12 =>
 xSc r38 true (fun J_3 =>
 J_3 (((x27l : Nat) : Int) == 3) h_12)
 (fun r43 h_13 =>
 xSc r43 true (fun J_4 =>
 xIdx x27a x27l 0 1 fun x46 =>
 oI .i64 (h_13.cell x46) fun x47 =>
 J_4 (x47 == 1) h_13)
 (fun r49 h_14 =>
 xSc r49 true (fun J_5 =>
 xIdx x27a x27l 1 1 fun x52 =>
 oI .i64 (h_14.cell x52) fun x53 =>
 J_5 (x53 == 2) h_14)
 (fun r55 h_15 =>
 xSc r55 true (fun J_6 =>
 xIdx x27a x27l 2 1 fun x58 =>
 oI .i64 (h_15.cell x58) fun x59 =>
 J_6 (x59 == 0) h_15)
 (fun r61 h_16 =>
 Q (.bool r61) h_16) h_15) h_14) h_13) h_12) h_11) h_10
theorem P_law23_alive_eq  (h : PH) (Q : Value → PH → Prop) : dFn Try.prog Try.f24 A_law23_alive #[] h Q = P_law23_alive  h Q := by kernel_rfl
theorem P_law23_alive_of  {h : PH} {Q : Value → PH → Prop} (x : P_law23_alive  h Q) : Meets Try.prog 24 #[] h Q :=
  spec_of Try.func24 mix (by kernel_rfl) ((P_law23_alive_eq  h Q).symm ▸ x)
/-- futtock/check.Can -/
def A_check_Can : Ann := .seq (.leaf) (.seq (.leaf) (.seq (.leaf) (.leaf)))
def P_check_Can (a0 : Int) (a1 : Int) (a2 : Int) (a3a : Option Addr) (a3l : Nat) (a3c : Nat) (h : PH) (Q : Value → PH → Prop) : Prop :=
 Meets Try.prog 61 #[(.int .i64 a0), (.int .i64 a1), (.int .i64 a2), (.slice a3a a3l a3c)] h fun v18 h_1 =>
 oTup v18 3 fun x18cs =>
 oIx x18cs[0]? fun x18w =>
 oS (some x18w) fun x18_0a x18_0l x18_0c =>
 oIx x18cs[1]? fun x18w_1 =>
 oB (some x18w_1) fun x18_1 =>
 oIx x18cs[2]? fun x18w_2 =>
 oI .i64 (some x18w_2) fun x18_2 =>
 oS (some (.slice x18_0a x18_0l x18_0c)) fun x19a x19l x19c =>
 oB (some (.bool x18_1)) fun x20 =>
 oI .i64 (some (.int .i64 x18_2)) fun x21 =>
 Q (.tuple #[(.bool x20), (.int .i64 x21)]) h_1
theorem P_check_Can_eq (a0 : Int) (a1 : Int) (a2 : Int) (a3a : Option Addr) (a3l : Nat) (a3c : Nat) (h : PH) (Q : Value → PH → Prop) : dFn Try.prog Try.f25 A_check_Can #[(.int .i64 a0), (.int .i64 a1), (.int .i64 a2), (.slice a3a a3l a3c)] h Q = P_check_Can a0 a1 a2 a3a a3l a3c h Q := by kernel_rfl
theorem P_check_Can_of {a0 : Int} {a1 : Int} {a2 : Int} {a3a : Option Addr} {a3l : Nat} {a3c : Nat} {h : PH} {Q : Value → PH → Prop} (x : P_check_Can a0 a1 a2 a3a a3l a3c h Q) : Meets Try.prog 25 #[(.int .i64 a0), (.int .i64 a1), (.int .i64 a2), (.slice a3a a3l a3c)] h Q :=
  spec_of Try.func25 mix (by kernel_rfl) ((P_check_Can_eq a0 a1 a2 a3a a3l a3c h Q).symm ▸ x)
/-- futtock/futtocklaw23.theirs -/
def A_law23_theirs : Ann := .seq (.leaf) (.seq (.leaf) (.seq (.seq (.leaf) (.block [(3, .slice)] (.loop [(3, .slice), (9, (.int .i64))] (.seq (.leaf) (.seq (.cond [] (.leaf) (.leaf)) (.seq (.block [(3, .slice)] (.seq (.leaf) (.seq (.leaf) (.leaf)))) (.leaf))))))) (.seq (.leaf) (.leaf))))
def P_law23_theirs (a0a : Option Addr) (a0l : Nat) (a0c : Nat) (h : PH) (Q : Value → PH → Prop) : Prop :=
 xBlk (fun J_1 =>
 ∃ n, xLoopN (fun _ _ _ _ _ => False) (fun J_2 =>
 (fun (x3a : Option Addr) (x3l : Nat) (x3c : Nat) (x9 : Int) (h_1 : PH) =>
 xIte (decide ((x9 : Int) < ((a0l : Nat) : Int))) (fun J_3 =>
 J_3 h_1)
 (fun J_3 =>
 J_1 x3a x3l x3c h_1)
 (fun  (h_2 : PH) =>
 xBlk (fun J_4 =>
 xIdx a0a a0l x9 7 fun x11 =>
 oI .i64 (h_2.cell (x11.add 0)) fun x12_0 =>
 oI .i64 (h_2.cell (x11.add 1)) fun x12_1 =>
 oI .i64 (h_2.cell (x11.add 2)) fun x12_2 =>
 oI .i64 (h_2.cell (x11.add 3)) fun x12_3 =>
 oI .i64 (h_2.cell (x11.add 4)) fun x12_4 =>
 oI .i64 (h_2.cell (x11.add 5)) fun x12_5 =>
 oI .i64 (h_2.cell (x11.add 6)) fun x12_6 =>
 xNew h_2 (.cells #[(.int .i64 0), (.int .i64 0), (.int .i64 0), (.int .i64 0), (.int .i64 0), (.int .i64 0), (.int .i64 0)] 65 (0, 0)) fun b5 h_3 =>
 xSt 7 h_3 (⟨b5, 0, none⟩ : Addr) [(.int .i64 x12_0), (.int .i64 x12_1), (.int .i64 x12_2), (.int .i64 x12_3), (.int .i64 x12_4), (.int .i64 x12_5), (.int .i64 x12_6)] fun h_4 =>
 oI .i64 (h_4.cell (((⟨b5, 0, none⟩ : Addr).add 0).add 0)) fun x14_0 =>
 oI .i64 (h_4.cell (((⟨b5, 0, none⟩ : Addr).add 0).add 1)) fun x14_1 =>
 oI .i64 (h_4.cell (((⟨b5, 0, none⟩ : Addr).add 0).add 2)) fun x14_2 =>
 oI .i64 (h_4.cell (((⟨b5, 0, none⟩ : Addr).add 0).add 3)) fun x14_3 =>
 oI .i64 (h_4.cell (((⟨b5, 0, none⟩ : Addr).add 0).add 4)) fun x14_4 =>
 xNew h_4 (.cells #[(.int .i64 0), (.int .i64 0), (.int .i64 0), (.int .i64 0), (.int .i64 0)] 29 (0, 0)) fun b6 h_5 =>
 xSt 5 h_5 (⟨b6, 0, none⟩ : Addr) [(.int .i64 x14_0), (.int .i64 x14_1), (.int .i64 x14_2), (.int .i64 x14_3), (.int .i64 x14_4)] fun h_6 =>
 oI .i64 (h_6.cell ((⟨b6, 0, none⟩ : Addr).add 0)) fun x17 =>
 oI .i64 (h_6.cell ((⟨b6, 0, none⟩ : Addr).add 1)) fun x19 =>
 oI .i64 (h_6.cell ((⟨b6, 0, none⟩ : Addr).add 2)) fun x21 =>
 oI .i64 (h_6.cell ((⟨b6, 0, none⟩ : Addr).add 3)) fun x23 =>
 oI .i64 (h_6.cell ((⟨b6, 0, none⟩ : Addr).add 4)) fun x25 =>
 oI .i64 (h_6.cell ((⟨b5, 0, none⟩ : Addr).add 5)) fun x28 =>
 oI .i64 (h_6.cell ((⟨b5, 0, none⟩ : Addr).add 6)) fun x30 =>
 xNew h_6 (.cells #[(.int .i64 x17), (.int .i64 x19), (.int .i64 x21), (.int .i64 x23), (.int .i64 x25), (.int .i64 x28), (.int .i64 x30)] 61 (0, 0)) fun b32 h_7 =>
 xApp h_7 61 7 56 x3a x3l x3c (.slice (some (⟨b32, 0, none⟩ : Addr)) 1 1) fun x33a x33l x33c h_8 =>
 J_4 x33a x33l x33c h_8)
 (fun (x3a_1 : Option Addr) (x3l_1 : Nat) (x3c_1 : Nat) (h_9 : PH) =>
 J_2 x3a_1 x3l_1 x3c_1 (IntKind.wrap .i64 (x9 + 1)) h_9)))) n none 0 0 0 h)
 (fun (x3a_2 : Option Addr) (x3l_2 : Nat) (x3c_2 : Nat) (h_10 : PH) =>
 Q (.slice x3a_2 x3l_2 x3c_2) h_10)
theorem P_law23_theirs_eq (a0a : Option Addr) (a0l : Nat) (a0c : Nat) (h : PH) (Q : Value → PH → Prop) : dFn Try.prog Try.f26 A_law23_theirs #[(.slice a0a a0l a0c)] h Q = P_law23_theirs a0a a0l a0c h Q := by kernel_rfl
theorem P_law23_theirs_of {a0a : Option Addr} {a0l : Nat} {a0c : Nat} {h : PH} {Q : Value → PH → Prop} (x : P_law23_theirs a0a a0l a0c h Q) : Meets Try.prog 26 #[(.slice a0a a0l a0c)] h Q :=
  spec_of Try.func26 mix (by kernel_rfl) ((P_law23_theirs_eq a0a a0l a0c h Q).symm ▸ x)
/-- futtock/check.Order -/
def A_check_Order : Ann := .seq (.leaf) (.seq (.leaf) (.seq (.leaf) (.leaf)))
def P_check_Order (a0 : Int) (a1 : Int) (a2 : Int) (a3a : Option Addr) (a3l : Nat) (a3c : Nat) (h : PH) (Q : Value → PH → Prop) : Prop :=
 Meets Try.prog 61 #[(.int .i64 a0), (.int .i64 a1), (.int .i64 a2), (.slice a3a a3l a3c)] h fun v18 h_1 =>
 oTup v18 3 fun x18cs =>
 oIx x18cs[0]? fun x18w =>
 oS (some x18w) fun x18_0a x18_0l x18_0c =>
 oIx x18cs[1]? fun x18w_1 =>
 oB (some x18w_1) fun x18_1 =>
 oIx x18cs[2]? fun x18w_2 =>
 oI .i64 (some x18w_2) fun x18_2 =>
 oS (some (.slice x18_0a x18_0l x18_0c)) fun x19a x19l x19c =>
 oB (some (.bool x18_1)) fun x20 =>
 oI .i64 (some (.int .i64 x18_2)) fun x21 =>
 Q (.tuple #[(.slice x19a x19l x19c), (.int .i64 x21)]) h_1
theorem P_check_Order_eq (a0 : Int) (a1 : Int) (a2 : Int) (a3a : Option Addr) (a3l : Nat) (a3c : Nat) (h : PH) (Q : Value → PH → Prop) : dFn Try.prog Try.f27 A_check_Order #[(.int .i64 a0), (.int .i64 a1), (.int .i64 a2), (.slice a3a a3l a3c)] h Q = P_check_Order a0 a1 a2 a3a a3l a3c h Q := by kernel_rfl
theorem P_check_Order_of {a0 : Int} {a1 : Int} {a2 : Int} {a3a : Option Addr} {a3l : Nat} {a3c : Nat} {h : PH} {Q : Value → PH → Prop} (x : P_check_Order a0 a1 a2 a3a a3l a3c h Q) : Meets Try.prog 27 #[(.int .i64 a0), (.int .i64 a1), (.int .i64 a2), (.slice a3a a3l a3c)] h Q :=
  spec_of Try.func27 mix (by kernel_rfl) ((P_check_Order_eq a0 a1 a2 a3a a3l a3c h Q).symm ▸ x)
/-- futtock/check.May -/
def A_check_May : Ann := .seq (.leaf) (.seq (.seq (.leaf) (.cond [] (.seq (.leaf) (.leaf)) (.leaf))) (.seq (.seq (.leaf) (.block [] (.seq (.seq (.leaf) (.cond [(11, .bool)] (.leaf) (.seq (.leaf) (.cond [(11, .bool)] (.leaf) (.seq (.leaf) (.cond [(11, .bool)] (.leaf) (.seq (.leaf) (.cond [(11, .bool)] (.leaf) (.seq (.leaf) (.cond [(11, .bool)] (.leaf) (.leaf))))))))))) (.cond [] (.seq (.leaf) (.leaf)) (.seq (.leaf) (.cond [] (.seq (.leaf) (.leaf)) (.seq (.leaf) (.cond [] (.seq (.leaf) (.leaf)) (.leaf))))))))) (.seq (.leaf) (.leaf))))
def P_check_May (a0_0 : Int) (a0_1 : Int) (a0_2 : Int) (a0_3 : Int) (a0_4 : Int) (a0_5 : Int) (a0_6 : Int) (h : PH) (Q : Value → PH → Prop) : Prop :=
 xNew h (.cells #[(.int .i64 a0_0), (.int .i64 a0_1), (.int .i64 a0_2), (.int .i64 a0_3), (.int .i64 a0_4), (.int .i64 a0_5), (.int .i64 a0_6)] 61 (0, 0)) fun b1 h_1 =>
 oI .i64 (h_1.cell ((⟨b1, 0, none⟩ : Addr).add 5)) fun x4 =>
 oI .i64 (h_1.cell ((⟨b1, 0, none⟩ : Addr).add 6)) fun x6 =>
 xIte (decide ((x4 : Int) ≥ x6)) (fun J_1 =>
 Q (.bool false) h_1)
 (fun J_1 =>
 J_1 h_1)
 (fun  (h_2 : PH) =>
 oI .i64 (h_2.cell (((⟨b1, 0, none⟩ : Addr).add 0).add 0)) fun x10 =>
 xBlk (fun J_2 =>
 xIte (x10 == 1) (fun J_3 =>
 J_3 (x10 == 1) h_2)
 (fun J_3 =>
 xIte (x10 == 2) (fun J_4 =>
 J_4 (x10 == 2) h_2)
 (fun J_4 =>
 xIte (x10 == 3) (fun J_5 =>
 J_5 (x10 == 3) h_2)
 (fun J_5 =>
 xIte (x10 == 9) (fun J_6 =>
 J_6 (x10 == 9) h_2)
 (fun J_6 =>
 xIte (x10 == 11) (fun J_7 =>
 J_7 (x10 == 11) h_2)
 (fun J_7 =>
 J_7 (x10 == 12) h_2)
 (fun (x11 : Bool) (h_3 : PH) =>
 J_6 x11 h_3))
 (fun (x11_1 : Bool) (h_4 : PH) =>
 J_5 x11_1 h_4))
 (fun (x11_2 : Bool) (h_5 : PH) =>
 J_4 x11_2 h_5))
 (fun (x11_3 : Bool) (h_6 : PH) =>
 J_3 x11_3 h_6))
 (fun (x11_4 : Bool) (h_7 : PH) =>
 xIte x11_4 (fun J_8 =>
 Q (.bool true) h_7)
 (fun J_8 =>
 xIte (x10 == 8) (fun J_9 =>
 oI .i64 (h_7.cell (((⟨b1, 0, none⟩ : Addr).add 0).add 3)) fun x22 =>
 Q (.bool (x22 == (-1))) h_7)
 (fun J_9 =>
 xIte (x10 == 10) (fun J_10 =>
 oI .i64 (h_7.cell (((⟨b1, 0, none⟩ : Addr).add 0).add 4)) fun x28 =>
 Q (.bool (x28 == 0)) h_7)
 (fun J_10 =>
 J_10 h_7)
 (fun  (h_8 : PH) =>
 J_9 h_8))
 (fun  (h_9 : PH) =>
 J_8 h_9))
 (fun  (h_10 : PH) =>
 J_2 h_10)))
 (fun  (h_11 : PH) =>
 Q (.bool false) h_11))
theorem P_check_May_eq (a0_0 : Int) (a0_1 : Int) (a0_2 : Int) (a0_3 : Int) (a0_4 : Int) (a0_5 : Int) (a0_6 : Int) (h : PH) (Q : Value → PH → Prop) : dFn Try.prog Try.f29 A_check_May #[(.agg #[(.int .i64 a0_0), (.int .i64 a0_1), (.int .i64 a0_2), (.int .i64 a0_3), (.int .i64 a0_4), (.int .i64 a0_5), (.int .i64 a0_6)])] h Q = P_check_May a0_0 a0_1 a0_2 a0_3 a0_4 a0_5 a0_6 h Q := by kernel_rfl
theorem P_check_May_of {a0_0 : Int} {a0_1 : Int} {a0_2 : Int} {a0_3 : Int} {a0_4 : Int} {a0_5 : Int} {a0_6 : Int} {h : PH} {Q : Value → PH → Prop} (x : P_check_May a0_0 a0_1 a0_2 a0_3 a0_4 a0_5 a0_6 h Q) : Meets Try.prog 29 #[(.agg #[(.int .i64 a0_0), (.int .i64 a0_1), (.int .i64 a0_2), (.int .i64 a0_3), (.int .i64 a0_4), (.int .i64 a0_5), (.int .i64 a0_6)])] h Q :=
  spec_of Try.func29 mix (by kernel_rfl) ((P_check_May_eq a0_0 a0_1 a0_2 a0_3 a0_4 a0_5 a0_6 h Q).symm ▸ x)
/-- futtock/check.Serial -/
def A_check_Serial : Ann := .seq (.leaf) (.seq (.leaf) (.seq (.seq (.leaf) (.cond [] (.seq (.leaf) (.leaf)) (.leaf))) (.seq (.seq (.leaf) (.block [] (.loop [(25, (.int .i64))] (.seq (.leaf) (.seq (.cond [] (.leaf) (.leaf)) (.seq (.block [] (.seq (.leaf) (.seq (.leaf) (.cond [] (.seq (.leaf) (.leaf)) (.leaf))))) (.leaf))))))) (.seq (.leaf) (.leaf)))))
def P_check_Serial (a0 : Int) (a1 : Int) (a2 : Int) (a3a : Option Addr) (a3l : Nat) (a3c : Nat) (h : PH) (Q : Value → PH → Prop) : Prop :=
 Meets Try.prog 11 #[(.int .i64 a0), (.int .i64 a1), (.int .i64 a2)] h fun v18 h_1 =>
 oTup v18 2 fun x18cs =>
 oIx x18cs[0]? fun x18w =>
 oP (some x18w) fun x18_0 =>
 oIx x18cs[1]? fun x18w_1 =>
 oI .i64 (some x18w_1) fun x18_1 =>
 oP (some (.pointer x18_0)) fun x19 =>
 oI .i64 (some (.int .i64 x18_1)) fun x20 =>
 xIte (x20 != 0) (fun J_1 =>
 Q (.tuple #[(.int .i64 0), (.bool false)]) h_1)
 (fun J_1 =>
 J_1 h_1)
 (fun  (h_2 : PH) =>
 xBlk (fun J_2 =>
 ∃ n, xLoopN (fun _ _ => False) (fun J_3 =>
 (fun (x25 : Int) (h_3 : PH) =>
 xIte (decide ((x25 : Int) < ((a3l : Nat) : Int))) (fun J_4 =>
 J_4 h_3)
 (fun J_4 =>
 J_2 h_3)
 (fun  (h_4 : PH) =>
 xBlk (fun J_5 =>
 xIdx a3a a3l x25 7 fun x28 =>
 oI .i64 (h_4.cell (x28.add 0)) fun x29_0 =>
 oI .i64 (h_4.cell (x28.add 1)) fun x29_1 =>
 oI .i64 (h_4.cell (x28.add 2)) fun x29_2 =>
 oI .i64 (h_4.cell (x28.add 3)) fun x29_3 =>
 oI .i64 (h_4.cell (x28.add 4)) fun x29_4 =>
 oI .i64 (h_4.cell (x28.add 5)) fun x29_5 =>
 oI .i64 (h_4.cell (x28.add 6)) fun x29_6 =>
 xNew h_4 (.cells #[(.int .i64 0), (.int .i64 0), (.int .i64 0), (.int .i64 0), (.int .i64 0), (.int .i64 0), (.int .i64 0)] 61 (0, 0)) fun b13 h_5 =>
 xSt 7 h_5 (⟨b13, 0, none⟩ : Addr) [(.int .i64 x29_0), (.int .i64 x29_1), (.int .i64 x29_2), (.int .i64 x29_3), (.int .i64 x29_4), (.int .i64 x29_5), (.int .i64 x29_6)] fun h_6 =>
 oI .i64 (h_6.cell (((⟨b13, 0, none⟩ : Addr).add 0).add 0)) fun x32_0 =>
 oI .i64 (h_6.cell (((⟨b13, 0, none⟩ : Addr).add 0).add 1)) fun x32_1 =>
 oI .i64 (h_6.cell (((⟨b13, 0, none⟩ : Addr).add 0).add 2)) fun x32_2 =>
 oI .i64 (h_6.cell (((⟨b13, 0, none⟩ : Addr).add 0).add 3)) fun x32_3 =>
 oI .i64 (h_6.cell (((⟨b13, 0, none⟩ : Addr).add 0).add 4)) fun x32_4 =>
 Meets Try.prog 14 #[(.pointer x19), (.agg #[(.int .i64 x32_0), (.int .i64 x32_1), (.int .i64 x32_2), (.int .i64 x32_3), (.int .i64 x32_4)])] h_6 fun v33 h_7 =>
 oI .i64 (some v33) fun x33 =>
 xIte (x33 != 0) (fun J_6 =>
 Q (.tuple #[(.int .i64 x25), (.bool false)]) h_7)
 (fun J_6 =>
 J_6 h_7)
 (fun  (h_8 : PH) =>
 J_5 h_8))
 (fun  (h_9 : PH) =>
 J_3 (IntKind.wrap .i64 (x25 + 1)) h_9)))) n 0 h_2)
 (fun  (h_10 : PH) =>
 Q (.tuple #[(.int .i64 ((a3l : Nat) : Int)), (.bool true)]) h_10))
theorem P_check_Serial_eq (a0 : Int) (a1 : Int) (a2 : Int) (a3a : Option Addr) (a3l : Nat) (a3c : Nat) (h : PH) (Q : Value → PH → Prop) : dFn Try.prog Try.f31 A_check_Serial #[(.int .i64 a0), (.int .i64 a1), (.int .i64 a2), (.slice a3a a3l a3c)] h Q = P_check_Serial a0 a1 a2 a3a a3l a3c h Q := by kernel_rfl
theorem P_check_Serial_of {a0 : Int} {a1 : Int} {a2 : Int} {a3a : Option Addr} {a3l : Nat} {a3c : Nat} {h : PH} {Q : Value → PH → Prop} (x : P_check_Serial a0 a1 a2 a3a a3l a3c h Q) : Meets Try.prog 31 #[(.int .i64 a0), (.int .i64 a1), (.int .i64 a2), (.slice a3a a3l a3c)] h Q :=
  spec_of Try.func31 mix (by kernel_rfl) ((P_check_Serial_eq a0 a1 a2 a3a a3l a3c h Q).symm ▸ x)
/-- futtock/check.ask -/
def A_check_ask : Ann := .seq (.leaf) (.seq (.leaf) (.seq (.seq (.leaf) (.cond [] (.seq (.leaf) (.leaf)) (.leaf))) (.seq (.seq (.leaf) (.block [] (.loop [(29, (.int .i64))] (.seq (.leaf) (.seq (.cond [] (.leaf) (.leaf)) (.seq (.block [] (.seq (.leaf) (.seq (.leaf) (.cond [] (.seq (.leaf) (.leaf)) (.leaf))))) (.leaf))))))) (.seq (.seq (.leaf) (.cond [] (.seq (.leaf) (.leaf)) (.leaf))) (.seq (.leaf) (.seq (.leaf) (.seq (.leaf) (.leaf))))))))
def P_check_ask (a0 : Int) (a1 : Int) (a2 : Int) (a3a : Option Addr) (a3l : Nat) (a3c : Nat) (h : PH) (Q : Value → PH → Prop) : Prop :=
 Meets Try.prog 11 #[(.int .i64 a0), (.int .i64 a1), (.int .i64 a2)] h fun v22 h_1 =>
 oTup v22 2 fun x22cs =>
 oIx x22cs[0]? fun x22w =>
 oP (some x22w) fun x22_0 =>
 oIx x22cs[1]? fun x22w_1 =>
 oI .i64 (some x22w_1) fun x22_1 =>
 oP (some (.pointer x22_0)) fun x23 =>
 oI .i64 (some (.int .i64 x22_1)) fun x24 =>
 xIte (x24 != 0) (fun J_1 =>
 Q (.tuple #[(.slice none 0 0), (.bool false), (.int .i64 1)]) h_1)
 (fun J_1 =>
 J_1 h_1)
 (fun  (h_2 : PH) =>
 xBlk (fun J_2 =>
 ∃ n, xLoopN (fun _ _ => False) (fun J_3 =>
 (fun (x29 : Int) (h_3 : PH) =>
 xIte (decide ((x29 : Int) < ((a3l : Nat) : Int))) (fun J_4 =>
 J_4 h_3)
 (fun J_4 =>
 J_2 h_3)
 (fun  (h_4 : PH) =>
 xBlk (fun J_5 =>
 xIdx a3a a3l x29 7 fun x31 =>
 oI .i64 (h_4.cell (x31.add 0)) fun x32_0 =>
 oI .i64 (h_4.cell (x31.add 1)) fun x32_1 =>
 oI .i64 (h_4.cell (x31.add 2)) fun x32_2 =>
 oI .i64 (h_4.cell (x31.add 3)) fun x32_3 =>
 oI .i64 (h_4.cell (x31.add 4)) fun x32_4 =>
 oI .i64 (h_4.cell (x31.add 5)) fun x32_5 =>
 oI .i64 (h_4.cell (x31.add 6)) fun x32_6 =>
 xNew h_4 (.cells #[(.int .i64 0), (.int .i64 0), (.int .i64 0), (.int .i64 0), (.int .i64 0), (.int .i64 0), (.int .i64 0)] 61 (0, 0)) fun b14 h_5 =>
 xSt 7 h_5 (⟨b14, 0, none⟩ : Addr) [(.int .i64 x32_0), (.int .i64 x32_1), (.int .i64 x32_2), (.int .i64 x32_3), (.int .i64 x32_4), (.int .i64 x32_5), (.int .i64 x32_6)] fun h_6 =>
 oI .i64 (h_6.cell ((⟨b14, 0, none⟩ : Addr).add 0)) fun x33_0 =>
 oI .i64 (h_6.cell ((⟨b14, 0, none⟩ : Addr).add 1)) fun x33_1 =>
 oI .i64 (h_6.cell ((⟨b14, 0, none⟩ : Addr).add 2)) fun x33_2 =>
 oI .i64 (h_6.cell ((⟨b14, 0, none⟩ : Addr).add 3)) fun x33_3 =>
 oI .i64 (h_6.cell ((⟨b14, 0, none⟩ : Addr).add 4)) fun x33_4 =>
 oI .i64 (h_6.cell ((⟨b14, 0, none⟩ : Addr).add 5)) fun x33_5 =>
 oI .i64 (h_6.cell ((⟨b14, 0, none⟩ : Addr).add 6)) fun x33_6 =>
 Meets Try.prog 29 #[(.agg #[(.int .i64 x33_0), (.int .i64 x33_1), (.int .i64 x33_2), (.int .i64 x33_3), (.int .i64 x33_4), (.int .i64 x33_5), (.int .i64 x33_6)])] h_6 fun v34 h_7 =>
 oB (some v34) fun x34 =>
 xIte (!x34) (fun J_6 =>
 Q (.tuple #[(.slice none 0 0), (.bool false), (.int .i64 1)]) h_7)
 (fun J_6 =>
 J_6 h_7)
 (fun  (h_8 : PH) =>
 J_5 h_8))
 (fun  (h_9 : PH) =>
 J_3 (IntKind.wrap .i64 (x29 + 1)) h_9)))) n 0 h_2)
 (fun  (h_10 : PH) =>
 xIte (decide ((((a3l : Nat) : Int) : Int) > 12)) (fun J_7 =>
 Q (.tuple #[(.slice none 0 0), (.bool false), (.int .i64 5)]) h_10)
 (fun J_7 =>
 J_7 h_10)
 (fun  (h_11 : PH) =>
 Meets Try.prog 88 #[(.slice a3a a3l a3c)] h_11 fun v42 h_12 =>
 oS (some v42) fun x42a x42l x42c =>
 xNew h_12 (.map #[] 0) fun b43 h_13 =>
 xNew h_13 (.cells #[(.slice a3a a3l a3c), (.slice x42a x42l x42c), (.map (some b43))] 165 (0, 0)) fun b45 h_14 =>
 Meets Try.prog 89 #[(.pointer (some (⟨b45, 0, none⟩ : Addr))), (.int .u64 0), (.pointer x23)] h_14 fun v49 h_15 =>
 oTup v49 2 fun x49cs =>
 oIx x49cs[0]? fun x49w =>
 oS (some x49w) fun x49_0a x49_0l x49_0c =>
 oIx x49cs[1]? fun x49w_1 =>
 oB (some x49w_1) fun x49_1 =>
 oS (some (.slice x49_0a x49_0l x49_0c)) fun x50a x50l x50c =>
 oB (some (.bool x49_1)) fun x51 =>
 Q (.tuple #[(.slice x50a x50l x50c), (.bool x51), (.int .i64 0)]) h_15)))
theorem P_check_ask_eq (a0 : Int) (a1 : Int) (a2 : Int) (a3a : Option Addr) (a3l : Nat) (a3c : Nat) (h : PH) (Q : Value → PH → Prop) : dFn Try.prog Try.f61 A_check_ask #[(.int .i64 a0), (.int .i64 a1), (.int .i64 a2), (.slice a3a a3l a3c)] h Q = P_check_ask a0 a1 a2 a3a a3l a3c h Q := by kernel_rfl
theorem P_check_ask_of {a0 : Int} {a1 : Int} {a2 : Int} {a3a : Option Addr} {a3l : Nat} {a3c : Nat} {h : PH} {Q : Value → PH → Prop} (x : P_check_ask a0 a1 a2 a3a a3l a3c h Q) : Meets Try.prog 61 #[(.int .i64 a0), (.int .i64 a1), (.int .i64 a2), (.slice a3a a3l a3c)] h Q :=
  spec_of Try.func61 mix (by kernel_rfl) ((P_check_ask_eq a0 a1 a2 a3a a3l a3c h Q).symm ▸ x)
/-- futtock/check.ahead -/
def A_check_ahead : Ann := .seq (.leaf) (.seq (.leaf) (.seq (.seq (.leaf) (.block [(3, .slice)] (.loop [(3, .slice), (11, (.int .i64))] (.seq (.leaf) (.seq (.cond [] (.leaf) (.leaf)) (.seq (.block [(3, .slice)] (.seq (.leaf) (.seq (.leaf) (.seq (.seq (.leaf) (.block [(6, (.int .u64))] (.loop [(6, (.int .u64)), (17, (.int .i64))] (.seq (.leaf) (.seq (.cond [] (.leaf) (.leaf)) (.seq (.block [(6, (.int .u64))] (.seq (.leaf) (.seq (.leaf) (.cond [(6, (.int .u64))] (.leaf) (.leaf))))) (.leaf))))))) (.leaf))))) (.leaf))))))) (.seq (.leaf) (.leaf))))
def P_check_ahead (a0a : Option Addr) (a0l : Nat) (a0c : Nat) (h : PH) (Q : Value → PH → Prop) : Prop :=
 xBlk (fun J_1 =>
 ∃ n, xLoopN (fun _ _ _ _ _ => False) (fun J_2 =>
 (fun (x3a : Option Addr) (x3l : Nat) (x3c : Nat) (x11 : Int) (h_1 : PH) =>
 xIte (decide ((x11 : Int) < ((a0l : Nat) : Int))) (fun J_3 =>
 J_3 h_1)
 (fun J_3 =>
 J_1 x3a x3l x3c h_1)
 (fun  (h_2 : PH) =>
 xBlk (fun J_4 =>
 xIdx a0a a0l x11 7 fun x13 =>
 oI .i64 (h_2.cell (x13.add 0)) fun x14_0 =>
 oI .i64 (h_2.cell (x13.add 1)) fun x14_1 =>
 oI .i64 (h_2.cell (x13.add 2)) fun x14_2 =>
 oI .i64 (h_2.cell (x13.add 3)) fun x14_3 =>
 oI .i64 (h_2.cell (x13.add 4)) fun x14_4 =>
 oI .i64 (h_2.cell (x13.add 5)) fun x14_5 =>
 oI .i64 (h_2.cell (x13.add 6)) fun x14_6 =>
 xNew h_2 (.cells #[(.int .i64 0), (.int .i64 0), (.int .i64 0), (.int .i64 0), (.int .i64 0), (.int .i64 0), (.int .i64 0)] 61 (0, 0)) fun b5 h_3 =>
 xSt 7 h_3 (⟨b5, 0, none⟩ : Addr) [(.int .i64 x14_0), (.int .i64 x14_1), (.int .i64 x14_2), (.int .i64 x14_3), (.int .i64 x14_4), (.int .i64 x14_5), (.int .i64 x14_6)] fun h_4 =>
 xBlk (fun J_5 =>
 ∃ n_1, xLoopN (fun _ _ _ => False) (fun J_6 =>
 (fun (x6 : Int) (x17 : Int) (h_5 : PH) =>
 xIte (decide ((x17 : Int) < ((a0l : Nat) : Int))) (fun J_7 =>
 J_7 h_5)
 (fun J_7 =>
 J_5 x6 h_5)
 (fun  (h_6 : PH) =>
 xBlk (fun J_8 =>
 xIdx a0a a0l x17 7 fun x20 =>
 oI .i64 (h_6.cell (x20.add 0)) fun x21_0 =>
 oI .i64 (h_6.cell (x20.add 1)) fun x21_1 =>
 oI .i64 (h_6.cell (x20.add 2)) fun x21_2 =>
 oI .i64 (h_6.cell (x20.add 3)) fun x21_3 =>
 oI .i64 (h_6.cell (x20.add 4)) fun x21_4 =>
 oI .i64 (h_6.cell (x20.add 5)) fun x21_5 =>
 oI .i64 (h_6.cell (x20.add 6)) fun x21_6 =>
 xNew h_6 (.cells #[(.int .i64 0), (.int .i64 0), (.int .i64 0), (.int .i64 0), (.int .i64 0), (.int .i64 0), (.int .i64 0)] 61 (0, 0)) fun b8 h_7 =>
 xSt 7 h_7 (⟨b8, 0, none⟩ : Addr) [(.int .i64 x21_0), (.int .i64 x21_1), (.int .i64 x21_2), (.int .i64 x21_3), (.int .i64 x21_4), (.int .i64 x21_5), (.int .i64 x21_6)] fun h_8 =>
 oI .i64 (h_8.cell ((⟨b8, 0, none⟩ : Addr).add 6)) fun x23 =>
 oI .i64 (h_8.cell ((⟨b5, 0, none⟩ : Addr).add 5)) fun x25 =>
 xIte (decide ((x23 : Int) < x25)) (fun J_9 =>
 xShl .u64 1 x17 fun x29 =>
 J_9 (IntKind.wrap .u64 (BitVec.ofInt (IntKind.bits .u64) x6 ||| BitVec.ofInt (IntKind.bits .u64) x29).toNat) h_8)
 (fun J_9 =>
 J_9 x6 h_8)
 (fun (x6_1 : Int) (h_9 : PH) =>
 J_8 x6_1 h_9))
 (fun (x6_2 : Int) (h_10 : PH) =>
 J_6 x6_2 (IntKind.wrap .i64 (x17 + 1)) h_10)))) n_1 0 0 h_4)
 (fun (x6_3 : Int) (h_11 : PH) =>
 xNew h_11 (.cells #[(.int .u64 x6_3)] 167 (0, 0)) fun b34 h_12 =>
 xApp h_12 167 1 8 x3a x3l x3c (.slice (some (⟨b34, 0, none⟩ : Addr)) 1 1) fun x35a x35l x35c h_13 =>
 J_4 x35a x35l x35c h_13))
 (fun (x3a_1 : Option Addr) (x3l_1 : Nat) (x3c_1 : Nat) (h_14 : PH) =>
 J_2 x3a_1 x3l_1 x3c_1 (IntKind.wrap .i64 (x11 + 1)) h_14)))) n none 0 0 0 h)
 (fun (x3a_2 : Option Addr) (x3l_2 : Nat) (x3c_2 : Nat) (h_15 : PH) =>
 Q (.slice x3a_2 x3l_2 x3c_2) h_15)
theorem P_check_ahead_eq (a0a : Option Addr) (a0l : Nat) (a0c : Nat) (h : PH) (Q : Value → PH → Prop) : dFn Try.prog Try.f88 A_check_ahead #[(.slice a0a a0l a0c)] h Q = P_check_ahead a0a a0l a0c h Q := by kernel_rfl
theorem P_check_ahead_of {a0a : Option Addr} {a0l : Nat} {a0c : Nat} {h : PH} {Q : Value → PH → Prop} (x : P_check_ahead a0a a0l a0c h Q) : Meets Try.prog 88 #[(.slice a0a a0l a0c)] h Q :=
  spec_of Try.func88 mix (by kernel_rfl) ((P_check_ahead_eq a0a a0l a0c h Q).symm ▸ x)
/-- (*futtock/check.search).rest -/
def A_check_search_rest : Ann := .seq (.leaf) (.seq (.seq (.leaf) (.cond [] (.seq (.leaf) (.leaf)) (.leaf))) (.seq (.seq (.leaf) (.cond [] (.seq (.leaf) (.leaf)) (.leaf))) (.seq (.seq (.leaf) (.block [] (.loop [(31, (.int .i64))] (.seq (.leaf) (.seq (.cond [] (.leaf) (.leaf)) (.seq (.block [] (.seq (.leaf) (.seq (.seq (.leaf) (.cond [] (.leaf) (.leaf))) (.seq (.leaf) (.seq (.seq (.leaf) (.cond [] (.leaf) (.leaf))) (.seq (.leaf) (.seq (.leaf) (.cond [] (.seq (.leaf) (.leaf)) (.leaf))))))))) (.leaf))))))) (.seq (.draw [(0, .flt), (1, .flt), (2, .flt), (3, .flt), (4, .flt), (5, .flt), (6, .flt), (7, .flt), (8, .flt), (9, .flt), (10, .flt), (11, .flt), (12, .eff), (13, .eff), (14, .brk)]) (.seq (.leaf) (.leaf))))))
def P_check_search_rest (a0 : Option Addr) (a1 : Int) (a2 : Option Addr) (h : PH) (Q : Value → PH → Prop) : Prop :=
 xNn a0 fun x15 =>
 oS (h.cell (x15.add 0)) fun x17a x17l x17c =>
 xShl .u64 1 ((x17l : Nat) : Int) fun x19 =>
 xIte (a1 == (IntKind.wrap .u64 (x19 - 1))) (fun J_1 =>
 Q (.tuple #[(.slice none 0 0), (.bool true)]) h)
 (fun J_1 =>
 J_1 h)
 (fun  (h_1 : PH) =>
 Meets Try.prog 109 #[(.pointer a0), (.int .u64 a1), (.pointer a2)] h_1 fun v25 h_2 =>
 oB (some v25) fun x25 =>
 xIte x25 (fun J_2 =>
 Q (.tuple #[(.slice none 0 0), (.bool false)]) h_2)
 (fun J_2 =>
 J_2 h_2)
 (fun  (h_3 : PH) =>
 xNn a0 fun x27 =>
 oS (h_3.cell (x27.add 0)) fun x29a x29l x29c =>
 xBlk (fun J_3 =>
 ∃ n, xLoopN (fun _ _ => False) (fun J_4 =>
 (fun (x31 : Int) (h_4 : PH) =>
 xIte (decide ((x31 : Int) < ((x29l : Nat) : Int))) (fun J_5 =>
 J_5 h_4)
 (fun J_5 =>
 J_3 h_4)
 (fun  (h_5 : PH) =>
 xBlk (fun J_6 =>
 xIdx x29a x29l x31 7 fun x34 =>
 oI .i64 (h_5.cell (x34.add 0)) fun x35_0 =>
 oI .i64 (h_5.cell (x34.add 1)) fun x35_1 =>
 oI .i64 (h_5.cell (x34.add 2)) fun x35_2 =>
 oI .i64 (h_5.cell (x34.add 3)) fun x35_3 =>
 oI .i64 (h_5.cell (x34.add 4)) fun x35_4 =>
 oI .i64 (h_5.cell (x34.add 5)) fun x35_5 =>
 oI .i64 (h_5.cell (x34.add 6)) fun x35_6 =>
 xNew h_5 (.cells #[(.int .i64 0), (.int .i64 0), (.int .i64 0), (.int .i64 0), (.int .i64 0), (.int .i64 0), (.int .i64 0)] 61 (0, 0)) fun b9 h_6 =>
 xSt 7 h_6 (⟨b9, 0, none⟩ : Addr) [(.int .i64 x35_0), (.int .i64 x35_1), (.int .i64 x35_2), (.int .i64 x35_3), (.int .i64 x35_4), (.int .i64 x35_5), (.int .i64 x35_6)] fun h_7 =>
 xShr .u64 a1 x31 fun x38 =>
 xSc ((IntKind.wrap .u64 (BitVec.ofInt (IntKind.bits .u64) x38 &&& BitVec.ofInt (IntKind.bits .u64) 1).toNat) == 1) false (fun J_7 =>
 xNn a0 fun x43 =>
 oS (h_7.cell (x43.add 1)) fun x45a x45l x45c =>
 xIdx x45a x45l x31 1 fun x47 =>
 oI .u64 (h_7.cell x47) fun x48 =>
 J_7 ((IntKind.wrap .u64 (BitVec.ofInt (IntKind.bits .u64) x48 &&& ~~~(BitVec.ofInt (IntKind.bits .u64) a1)).toNat) != 0) h_7)
 (fun r52 h_8 =>
 xIte r52 (fun J_8 =>
 J_6 h_8)
 (fun J_8 =>
 J_8 h_8)
 (fun  (h_9 : PH) =>
 Meets Try.prog 13 #[(.pointer a2)] h_9 fun v54 h_10 =>
 oP (some v54) fun x54 =>
 oI .i64 (h_10.cell (((⟨b9, 0, none⟩ : Addr).add 0).add 0)) fun x57_0 =>
 oI .i64 (h_10.cell (((⟨b9, 0, none⟩ : Addr).add 0).add 1)) fun x57_1 =>
 oI .i64 (h_10.cell (((⟨b9, 0, none⟩ : Addr).add 0).add 2)) fun x57_2 =>
 oI .i64 (h_10.cell (((⟨b9, 0, none⟩ : Addr).add 0).add 3)) fun x57_3 =>
 oI .i64 (h_10.cell (((⟨b9, 0, none⟩ : Addr).add 0).add 4)) fun x57_4 =>
 Meets Try.prog 14 #[(.pointer x54), (.agg #[(.int .i64 x57_0), (.int .i64 x57_1), (.int .i64 x57_2), (.int .i64 x57_3), (.int .i64 x57_4)])] h_10 fun v58 h_11 =>
 oI .i64 (some v58) fun x58 =>
 xIte (x58 != 0) (fun J_9 =>
 J_6 h_11)
 (fun J_9 =>
 J_9 h_11)
 (fun  (h_12 : PH) =>
 xShl .u64 1 x31 fun x64 =>
 Meets Try.prog 89 #[(.pointer a0), (.int .u64 (IntKind.wrap .u64 (BitVec.ofInt (IntKind.bits .u64) a1 ||| BitVec.ofInt (IntKind.bits .u64) x64).toNat)), (.pointer x54)] h_12 fun v67 h_13 =>
 oTup v67 2 fun x67cs =>
 oIx x67cs[0]? fun x67w =>
 oS (some x67w) fun x67_0a x67_0l x67_0c =>
 oIx x67cs[1]? fun x67w_1 =>
 oB (some x67w_1) fun x67_1 =>
 oS (some (.slice x67_0a x67_0l x67_0c)) fun x68a x68l x68c =>
 oB (some (.bool x67_1)) fun x69 =>
 xIte x69 (fun J_10 =>
 xNew h_13 (.cells #[(.int .i64 x31)] 3 (0, 0)) fun b72 h_14 =>
 xApp h_14 3 1 8 (some (⟨b72, 0, none⟩ : Addr)) 1 1 (.slice x68a x68l x68c) fun x74a x74l x74c h_15 =>
 Q (.tuple #[(.slice x74a x74l x74c), (.bool true)]) h_15)
 (fun J_10 =>
 J_10 h_13)
 (fun  (h_16 : PH) =>
 J_6 h_16)))) h_7)
 (fun  (h_17 : PH) =>
 J_4 (IntKind.wrap .i64 (x31 + 1)) h_17)))) n 0 h_3)
 (fun  (h_18 : PH) =>
 xDraw h_18 fun hs_1 =>
 xNn a0 fun x77 =>
 oM (hs_1.cell (x77.add 2)) fun x79 =>
 xNn a0 fun x82 =>
 oM (hs_1.cell (x82.add 2)) fun x84 =>
 xLook Try.prog 167 hs_1 x84 (.int .u64 a1) fun x86o =>
 oS (some (Option.getD x86o (.slice none 0 0))) fun x86a x86l x86c =>
 xNew h_18 (.cells #[(.pointer a2)] 23 (0, 0)) fun b88 h_19 =>
 PH.le hs_1 h_19 ∧
 xApp h_19 23 1 8 x86a x86l x86c (.slice (some (⟨b88, 0, none⟩ : Addr)) 1 1) fun x89a x89l x89c h_20 =>
 PH.le hs_1 h_20 ∧
 xPut Try.prog 167 h_20 x79 (.int .u64 a1) (.slice x89a x89l x89c) fun h_21 =>
 Q (.tuple #[(.slice none 0 0), (.bool false)]) h_21)))
theorem P_check_search_rest_eq (a0 : Option Addr) (a1 : Int) (a2 : Option Addr) (h : PH) (Q : Value → PH → Prop) : dFn Try.prog Try.f89 A_check_search_rest #[(.pointer a0), (.int .u64 a1), (.pointer a2)] h Q = P_check_search_rest a0 a1 a2 h Q := by kernel_rfl
theorem P_check_search_rest_of {a0 : Option Addr} {a1 : Int} {a2 : Option Addr} {h : PH} {Q : Value → PH → Prop} (x : P_check_search_rest a0 a1 a2 h Q) : Meets Try.prog 89 #[(.pointer a0), (.int .u64 a1), (.pointer a2)] h Q :=
  spec_of Try.func89 mix (by kernel_rfl) ((P_check_search_rest_eq a0 a1 a2 h Q).symm ▸ x)
/-- (*futtock/check.search).isDead -/
def A_check_search_isDead : Ann := .seq (.leaf) (.seq (.seq (.leaf) (.block [] (.loop [(16, (.int .i64))] (.seq (.leaf) (.seq (.cond [] (.leaf) (.leaf)) (.seq (.block [] (.seq (.leaf) (.seq (.leaf) (.cond [] (.seq (.leaf) (.leaf)) (.leaf))))) (.leaf))))))) (.seq (.leaf) (.leaf)))
def P_check_search_isDead (a0 : Option Addr) (a1 : Int) (a2 : Option Addr) (h : PH) (Q : Value → PH → Prop) : Prop :=
 xNn a0 fun x10 =>
 oM (h.cell (x10.add 2)) fun x12 =>
 xLook Try.prog 167 h x12 (.int .u64 a1) fun x14o =>
 oS (some (Option.getD x14o (.slice none 0 0))) fun x14a x14l x14c =>
 xBlk (fun J_1 =>
 ∃ n, xLoopN (fun _ _ => False) (fun J_2 =>
 (fun (x16 : Int) (h_1 : PH) =>
 xIte (decide ((x16 : Int) < ((x14l : Nat) : Int))) (fun J_3 =>
 J_3 h_1)
 (fun J_3 =>
 J_1 h_1)
 (fun  (h_2 : PH) =>
 xBlk (fun J_4 =>
 xIdx x14a x14l x16 1 fun x18 =>
 oP (h_2.cell x18) fun x19 =>
 Meets Try.prog 16 #[(.pointer x19), (.pointer a2)] h_2 fun v22 h_3 =>
 oB (some v22) fun x22 =>
 xIte x22 (fun J_5 =>
 Q (.bool true) h_3)
 (fun J_5 =>
 J_5 h_3)
 (fun  (h_4 : PH) =>
 J_4 h_4))
 (fun  (h_5 : PH) =>
 J_2 (IntKind.wrap .i64 (x16 + 1)) h_5)))) n 0 h)
 (fun  (h_6 : PH) =>
 Q (.bool false) h_6)
theorem P_check_search_isDead_eq (a0 : Option Addr) (a1 : Int) (a2 : Option Addr) (h : PH) (Q : Value → PH → Prop) : dFn Try.prog Try.f109 A_check_search_isDead #[(.pointer a0), (.int .u64 a1), (.pointer a2)] h Q = P_check_search_isDead a0 a1 a2 h Q := by kernel_rfl
theorem P_check_search_isDead_of {a0 : Option Addr} {a1 : Int} {a2 : Option Addr} {h : PH} {Q : Value → PH → Prop} (x : P_check_search_isDead a0 a1 a2 h Q) : Meets Try.prog 109 #[(.pointer a0), (.int .u64 a1), (.pointer a2)] h Q :=
  spec_of Try.func109 mix (by kernel_rfl) ((P_check_search_isDead_eq a0 a1 a2 h Q).symm ▸ x)
/-- futtock/futtocklaw23.CheckEarlier -/
def A_law23_CheckEarlier : Ann := .seq (.leaf) (.seq (.seq (.leaf) (.cond [] (.seq (.leaf) (.leaf)) (.leaf))) (.seq (.leaf) (.seq (.leaf) (.seq (.seq (.leaf) (.cond [] (.seq (.leaf) (.leaf)) (.leaf))) (.seq (.leaf) (.seq (.leaf) (.seq (.seq (.leaf) (.block [] (.loop [(6, .slice), (40, (.int .i64))] (.seq (.leaf) (.seq (.cond [] (.leaf) (.leaf)) (.seq (.block [(6, .slice)] (.seq (.leaf) (.seq (.seq (.leaf) (.cond [] (.seq (.leaf) (.leaf)) (.leaf))) (.seq (.seq (.leaf) (.block [] (.loop [(59, (.int .i64))] (.seq (.leaf) (.seq (.cond [] (.leaf) (.leaf)) (.seq (.block [] (.seq (.leaf) (.seq (.draw [(0, .flt), (1, .flt), (2, .flt), (3, .flt), (4, .flt), (5, .flt), (6, .flt), (7, .flt), (8, .flt), (9, .flt), (10, .flt), (11, .flt), (12, .flt), (13, .flt), (14, .flt), (15, .flt), (16, .flt), (17, .flt), (18, .flt)]) (.cond [] (.seq (.leaf) (.leaf)) (.leaf))))) (.leaf))))))) (.seq (.leaf) (.seq (.leaf) (.seq (.seq (.leaf) (.seq (.leaf) (.cond [] (.seq (.leaf) (.leaf)) (.leaf)))) (.seq (.leaf) (.seq (.leaf) (.cond [] (.seq (.leaf) (.leaf)) (.leaf))))))))))) (.leaf))))))) (.seq (.leaf) (.leaf)))))))))
def P_law23_CheckEarlier (a0a : Option Addr) (a0l : Nat) (a0c : Nat) (h : PH) (Q : Value → PH → Prop) : Prop :=
 xIte (decide ((((a0l : Nat) : Int) : Int) > 8)) (fun J_1 =>
 Meets Try.prog 24 #[] h fun v19 h_1 =>
 oB (some v19) fun x19 =>
 Q (.bool x19) h_1)
 (fun J_1 =>
 J_1 h)
 (fun  (h_2 : PH) =>
 Meets Try.prog 26 #[(.slice a0a a0l a0c)] h_2 fun v21 h_3 =>
 oS (some v21) fun x21a x21l x21c =>
 Meets Try.prog 27 #[(.int .i64 3), (.int .i64 2), (.int .i64 3), (.slice x21a x21l x21c)] h_3 fun v24 h_4 =>
 oTup v24 2 fun x24cs =>
 oIx x24cs[0]? fun x24w =>
 oS (some x24w) fun x24_0a x24_0l x24_0c =>
 oIx x24cs[1]? fun x24w_1 =>
 oI .i64 (some x24w_1) fun x24_1 =>
 oS (some (.slice x24_0a x24_0l x24_0c)) fun x25a x25l x25c =>
 oI .i64 (some (.int .i64 x24_1)) fun x26 =>
 xSc (x26 != 0) false (fun J_2 =>
 J_2 (((x25l : Nat) : Int) != ((x21l : Nat) : Int)) h_4)
 (fun r35 h_5 =>
 xIte r35 (fun J_3 =>
 Meets Try.prog 24 #[] h_5 fun v36 h_6 =>
 oB (some v36) fun x36 =>
 Q (.bool x36) h_6)
 (fun J_3 =>
 J_3 h_5)
 (fun  (h_7 : PH) =>
 xNew h_7 (.map #[] 0) fun b37 h_8 =>
 xBlk (fun J_4 =>
 ∃ n, xLoopN (fun _ _ _ _ _ => False) (fun J_5 =>
 (fun (x6a : Option Addr) (x6l : Nat) (x6c : Nat) (x40 : Int) (h_9 : PH) =>
 xIte (decide ((x40 : Int) < ((x25l : Nat) : Int))) (fun J_6 =>
 J_6 h_9)
 (fun J_6 =>
 J_4 h_9)
 (fun  (h_10 : PH) =>
 xBlk (fun J_7 =>
 xIdx x25a x25l x40 1 fun x42 =>
 oI .i64 (h_10.cell x42) fun x43 =>
 xSc (decide ((x43 : Int) < 0)) false (fun J_8 =>
 J_8 (decide ((x43 : Int) ≥ ((x21l : Nat) : Int))) h_10)
 (fun r51 h_11 =>
 xSc r51 false (fun J_9 =>
 xLook Try.prog 3 h_11 (some b37) (.int .i64 x43) fun x55o =>
 oB (some (Option.getD x55o (.bool false))) fun x55 =>
 J_9 x55 h_11)
 (fun r56 h_12 =>
 xIte r56 (fun J_10 =>
 Q (.bool false) h_12)
 (fun J_10 =>
 J_10 h_12)
 (fun  (h_13 : PH) =>
 xBlk (fun J_11 =>
 ∃ n_1, xLoopN (fun _ _ => False) (fun J_12 =>
 (fun (x59 : Int) (h_14 : PH) =>
 xIte (decide ((x59 : Int) < ((x21l : Nat) : Int))) (fun J_13 =>
 J_13 h_14)
 (fun J_13 =>
 J_11 h_14)
 (fun  (h_15 : PH) =>
 xBlk (fun J_14 =>
 xIdx x21a x21l x59 7 fun x62 =>
 oI .i64 (h_15.cell (x62.add 0)) fun x63_0 =>
 oI .i64 (h_15.cell (x62.add 1)) fun x63_1 =>
 oI .i64 (h_15.cell (x62.add 2)) fun x63_2 =>
 oI .i64 (h_15.cell (x62.add 3)) fun x63_3 =>
 oI .i64 (h_15.cell (x62.add 4)) fun x63_4 =>
 oI .i64 (h_15.cell (x62.add 5)) fun x63_5 =>
 oI .i64 (h_15.cell (x62.add 6)) fun x63_6 =>
 xNew h_15 (.cells #[(.int .i64 0), (.int .i64 0), (.int .i64 0), (.int .i64 0), (.int .i64 0), (.int .i64 0), (.int .i64 0)] 61 (0, 0)) fun b11 h_16 =>
 xSt 7 h_16 (⟨b11, 0, none⟩ : Addr) [(.int .i64 x63_0), (.int .i64 x63_1), (.int .i64 x63_2), (.int .i64 x63_3), (.int .i64 x63_4), (.int .i64 x63_5), (.int .i64 x63_6)] fun h_17 =>
 xDraw h_17 fun hs_1 =>
 xLook Try.prog 3 hs_1 (some b37) (.int .i64 x59) fun x66o =>
 oB (some (Option.getD x66o (.bool false))) fun x66 =>
 xSc (!x66) true (fun J_15 =>
 J_15 (x59 != x43) h_17)
 (fun r72 h_18 =>
 xSc r72 true (fun J_16 =>
 oI .i64 (hs_1.cell ((⟨b11, 0, none⟩ : Addr).add 6)) fun x75 =>
 xIdx x21a x21l x43 7 fun x78 =>
 oI .i64 (hs_1.cell (x78.add 5)) fun x80 =>
 J_16 (decide ((x75 : Int) < x80)) h_18)
 (fun r82 h_19 =>
 xIte r82 (fun J_17 =>
 Q (.bool false) h_19)
 (fun J_17 =>
 J_17 h_19)
 (fun  (h_20 : PH) =>
 J_14 h_20)) h_18) h_17)
 (fun  (h_21 : PH) =>
 J_12 (IntKind.wrap .i64 (x59 + 1)) h_21)))) n_1 0 h_13)
 (fun  (h_22 : PH) =>
 xPut Try.prog 3 h_22 (some b37) (.int .i64 x43) (.bool true) fun h_23 =>
 xIdx x21a x21l x43 7 fun x89 =>
 oI .i64 (h_23.cell (x89.add 0)) fun x90_0 =>
 oI .i64 (h_23.cell (x89.add 1)) fun x90_1 =>
 oI .i64 (h_23.cell (x89.add 2)) fun x90_2 =>
 oI .i64 (h_23.cell (x89.add 3)) fun x90_3 =>
 oI .i64 (h_23.cell (x89.add 4)) fun x90_4 =>
 oI .i64 (h_23.cell (x89.add 5)) fun x90_5 =>
 oI .i64 (h_23.cell (x89.add 6)) fun x90_6 =>
 xNew h_23 (.cells #[(.int .i64 x90_0), (.int .i64 x90_1), (.int .i64 x90_2), (.int .i64 x90_3), (.int .i64 x90_4), (.int .i64 x90_5), (.int .i64 x90_6)] 61 (0, 0)) fun b91 h_24 =>
 xApp h_24 61 7 56 x6a x6l x6c (.slice (some (⟨b91, 0, none⟩ : Addr)) 1 1) fun x92a x92l x92c h_25 =>
 Meets Try.prog 31 #[(.int .i64 3), (.int .i64 2), (.int .i64 3), (.slice x92a x92l x92c)] h_25 fun v95 h_26 =>
 oTup v95 2 fun x95cs =>
 oIx x95cs[0]? fun x95w =>
 oI .i64 (some x95w) fun x95_0 =>
 oIx x95cs[1]? fun x95w_1 =>
 oB (some x95w_1) fun x95_1 =>
 oI .i64 (some (.int .i64 x95_0)) fun x96 =>
 oB (some (.bool x95_1)) fun x97 =>
 xSc (!x97) false (fun J_18 =>
 J_18 (x96 != ((x92l : Nat) : Int)) h_26)
 (fun r105 h_27 =>
 xIte r105 (fun J_19 =>
 Q (.bool false) h_27)
 (fun J_19 =>
 J_19 h_27)
 (fun  (h_28 : PH) =>
 Meets Try.prog 25 #[(.int .i64 3), (.int .i64 2), (.int .i64 3), (.slice x92a x92l x92c)] h_28 fun v108 h_29 =>
 oTup v108 2 fun x108cs =>
 oIx x108cs[0]? fun x108w =>
 oB (some x108w) fun x108_0 =>
 oIx x108cs[1]? fun x108w_1 =>
 oI .i64 (some x108w_1) fun x108_1 =>
 oB (some (.bool x108_0)) fun x109 =>
 oI .i64 (some (.int .i64 x108_1)) fun x110 =>
 xSc (!x109) false (fun J_20 =>
 J_20 (x110 != 0) h_29)
 (fun r116 h_30 =>
 xIte r116 (fun J_21 =>
 Q (.bool false) h_30)
 (fun J_21 =>
 J_21 h_30)
 (fun  (h_31 : PH) =>
 J_7 x92a x92l x92c h_31)) h_29)) h_26))) h_11) h_10)
 (fun (x6a_1 : Option Addr) (x6l_1 : Nat) (x6c_1 : Nat) (h_32 : PH) =>
 J_5 x6a_1 x6l_1 x6c_1 (IntKind.wrap .i64 (x40 + 1)) h_32)))) n none 0 0 0 h_8)
 (fun  (h_33 : PH) =>
 Meets Try.prog 24 #[] h_33 fun v118 h_34 =>
 oB (some v118) fun x118 =>
 Q (.bool x118) h_34))) h_4)
theorem P_law23_CheckEarlier_eq (a0a : Option Addr) (a0l : Nat) (a0c : Nat) (h : PH) (Q : Value → PH → Prop) : dFn Try.prog Try.f7 A_law23_CheckEarlier #[(.slice a0a a0l a0c)] h Q = P_law23_CheckEarlier a0a a0l a0c h Q := by kernel_rfl
theorem P_law23_CheckEarlier_of {a0a : Option Addr} {a0l : Nat} {a0c : Nat} {h : PH} {Q : Value → PH → Prop} (x : P_law23_CheckEarlier a0a a0l a0c h Q) : Meets Try.prog 7 #[(.slice a0a a0l a0c)] h Q :=
  spec_of Try.func7 mix (by kernel_rfl) ((P_law23_CheckEarlier_eq a0a a0l a0c h Q).symm ▸ x)
end Go.Proofs.Ytnnedfhpicdacaa

/-
  Calls in memory; whether a call may be; how many calls the model takes as they stand.
-/
set_option linter.unusedSimpArgs false
set_option linter.unusedVariables false
namespace Go.Ck
open Go Go.Sx Go.Md Go.Proofs Go.Proofs.Ytnnedfhpicdacaa

def clL (c : Cl) : List Value := [.int .i64 c.event.kind, .int .i64 c.event.thread, .int .i64 c.event.obj, .int .i64 c.event.arg, .int .i64 c.event.err, .int .i64 c.fr, .int .i64 c.to]
theorem clL_len (c : Cl) : (clL c).length = 7 := rfl
theorem clL_one (c : Cl) : ∀ v ∈ clL c, oneCell v = true := by simp [clL, oneCell]
abbrev ClsAt := RecsAt clL 7
theorem cls_at {h : PH} {a : Option Addr} {l : List Cl} (x : ClsAt h a l) {i : Nat} {c : Cl} (hi : l[i]? = some c) : ∃ b, a = some b ∧ h.cell ((b.add (i * 7)).add 0) = some (.int .i64 c.event.kind) ∧ h.cell ((b.add (i * 7)).add 1) = some (.int .i64 c.event.thread) ∧ h.cell ((b.add (i * 7)).add 2) = some (.int .i64 c.event.obj) ∧
    h.cell ((b.add (i * 7)).add 3) = some (.int .i64 c.event.arg) ∧ h.cell ((b.add (i * 7)).add 4) = some (.int .i64 c.event.err) ∧ h.cell ((b.add (i * 7)).add 5) = some (.int .i64 c.fr) ∧ h.cell ((b.add (i * 7)).add 6) = some (.int .i64 c.to) := by
  obtain ⟨b, hb, hc⟩ := x.at_ i c hi
  exact ⟨b, hb, hc 0 _ rfl, hc 1 _ rfl, hc 2 _ rfl, hc 3 _ rfl, hc 4 _ rfl, hc 5 _ rfl, hc 6 _ rfl⟩
def clV (c : Cl) : Value := .agg (clL c).toArray

theorem meets_cMay {h : PH} (c : Cl) : Meets Try.prog 29 #[clV c] h fun v h' => v = .bool c.may ∧ h' = h := by
  apply Meets.same
  apply P_check_May_of
  unfold P_check_May
  refine xNew_intro fun b h1 l nb eb => ?_
  simp only [xNn_some, add_mk, cell_mk, upd_at, del_at, if_true, if_false, Option.bind_some, List.getElem?_toArray, List.getElem?_cons_succ, List.getElem?_cons_zero, oI_some, oS_some, oM_some, oB_some, oP_some, oT_some, xIdx_some, Nat.zero_add, Nat.add_zero, Nat.mul_one, eb, xBlk]
  refine ⟨fun hx => ?_, fun hx => ?_⟩
  · exact ⟨by unfold Cl.may; rw [if_pos hx], l⟩
  have hx' : ¬decide (c.fr ≥ c.to) = true := by rw [hx]; simp
  simp only [xNn_some, add_mk, cell_mk, upd_at, del_at, if_true, if_false, Option.bind_some, List.getElem?_toArray, List.getElem?_cons_succ, List.getElem?_cons_zero, oI_some, oS_some, oM_some, oB_some, oP_some, oT_some, xIdx_some, Nat.zero_add, Nat.add_zero, Nat.mul_one, eb]
  have six : ∀ K : Bool → PH → Prop, K (c.event.kind == 1 || (c.event.kind == 2 || (c.event.kind == 3 || (c.event.kind == 9 || (c.event.kind == 11 || c.event.kind == 12))))) h1 →
      xIte (c.event.kind == 1) (fun J => J (c.event.kind == 1) h1) (fun J => xIte (c.event.kind == 2) (fun J => J (c.event.kind == 2) h1) (fun J => xIte (c.event.kind == 3) (fun J => J (c.event.kind == 3) h1) (fun J => xIte (c.event.kind == 9) (fun J => J (c.event.kind == 9) h1) (fun J => xIte (c.event.kind == 11) (fun J => J (c.event.kind == 11) h1) (fun J => J (c.event.kind == 12) h1) (fun x h' => J x h')) (fun x h' => J x h')) (fun x h' => J x h')) (fun x h' => J x h')) K := by
    intro K hK
    cases e1 : (c.event.kind == 1) <;> cases e2 : (c.event.kind == 2) <;> cases e3 : (c.event.kind == 3) <;> cases e4 : (c.event.kind == 9) <;> cases e5 : (c.event.kind == 11) <;> simp only [e1, e2, e3, e4, e5, Bool.true_or, Bool.false_or] at hK <;> simp [xIte, hK]
  refine six _ ⟨fun hk => ?_, fun hk => ?_⟩
  · refine ⟨?_, l⟩
    unfold Cl.may
    rw [if_neg hx', if_pos (by simp at hk; omega)]
  have nk : ¬(c.event.kind = 1 ∨ c.event.kind = 2 ∨ c.event.kind = 3 ∨ c.event.kind = 9 ∨ c.event.kind = 11 ∨ c.event.kind = 12) := by
    simp at hk; omega
  refine ⟨fun h8 => ?_, fun h8 => ?_⟩
  · have h8 := beq_iff_eq.1 h8
    simp only [xNn_some, add_mk, cell_mk, upd_at, del_at, if_true, if_false, Option.bind_some, List.getElem?_toArray, List.getElem?_cons_succ, List.getElem?_cons_zero, oI_some, oS_some, oM_some, oB_some, oP_some, oT_some, xIdx_some, Nat.zero_add, Nat.add_zero, Nat.mul_one, eb]
    exact ⟨by unfold Cl.may; rw [if_neg hx', if_neg nk, if_pos h8], l⟩
  have n8 : c.event.kind ≠ 8 := by simpa using h8
  refine ⟨fun h10 => ?_, fun h10 => ?_⟩
  · have h10 := beq_iff_eq.1 h10
    simp only [xNn_some, add_mk, cell_mk, upd_at, del_at, if_true, if_false, Option.bind_some, List.getElem?_toArray, List.getElem?_cons_succ, List.getElem?_cons_zero, oI_some, oS_some, oM_some, oB_some, oP_some, oT_some, xIdx_some, Nat.zero_add, Nat.add_zero, Nat.mul_one, eb]
    exact ⟨by unfold Cl.may; rw [if_neg hx', if_neg nk, if_neg n8, if_pos h10], l⟩
  have n10 : c.event.kind ≠ 10 := by simpa using h10
  exact ⟨by unfold Cl.may; rw [if_neg hx', if_neg nk, if_neg n8, if_neg n10], l⟩

end Go.Ck

/-
  The walk of ModelErrors.
-/
set_option linter.unusedSimpArgs false
set_option linter.unusedVariables false
namespace Go.Md
open Go Go.Sx Go.Proofs Go.Proofs.Ytnnedfhpicdacaa

theorem MOwn.le {h0 h h' : PH} {p : Value} {s : Ms} (o : MOwn h0 h p s) (l : h.le h') : MOwn h0 h' p s := by
  obtain ⟨L, e, r, l', n⟩ := o
  exact ⟨L, e, r.le l, PH.le_trans l' l, n⟩
theorem flag_setFlag {s : Ms} {t : Int} (h : s.isThread t = true) : (s.setFlag t false).isThread t = true ∧ (s.setFlag t false).flag t = false := by
  simp only [Ms.isThread, Bool.and_eq_true, decide_eq_true_eq] at h
  have hl : t.toNat < s.flags.length := by omega
  refine ⟨by simp [Ms.isThread, Ms.setFlag]; omega, ?_⟩
  simp [Ms.flag, Ms.setFlag, List.getD_eq_getElem?_getD, hl]
theorem at_setFlag (s : Ms) (t o : Int) (b : Bool) : (s.setFlag t b).at o = s.at o := rfl

set_option maxHeartbeats 1000000 in
theorem meets_ModelErrors {h : PH} {a : Option Addr} {l c : Nat} {evs : List Ev} (hc : l ≤ c) (hl : evs.length = l) (x : EvsAt h a evs) :
    Meets Try.prog 3 #[.slice a l c] h fun v h' => v = .bool true ∧ h' = h := by
  apply Meets.same
  apply P_law14_ModelErrors_of
  unfold P_law14_ModelErrors
  refine (meets_New 4 3 3 (by decide)).mono ?_
  rintro _ h1 ⟨w, rfl, f⟩
  have o := MOwn.of_fresh (PH.le_refl h) f
  obtain ⟨p, rfl⟩ := o.ptr
  clear f
  have k0 := new_ok 4 3 3 (by decide) (by decide)
  simp only [oTup_mk, oIx_some, oP_some, oI_some, List.getElem?_toArray, List.getElem?_cons_zero, List.getElem?_cons_succ]
  refine ⟨rfl, xSc_or false (fun _ J hJ => hJ) ⟨fun hx => (by cases hx), fun _ => ?_⟩⟩
  refine (meets_short14 hc).mono ?_
  rintro _ _ ⟨⟨c', rfl⟩, rfl⟩
  simp only [oS_some]
  have x2 := x.take (min l 200)
  have hl2 : (evs.take (min l 200)).length = min l 200 := by rw [List.length_take]; omega
  have hmax : min l 200 ≤ 200 := by omega
  generalize evs.take (min l 200) = es at x2 hl2
  generalize min l 200 = n at hl2 hmax ⊢
  refine xBlk_split (fun h' => ∃ s : Ms, s.Ok ∧ MOwn h h' (.pointer (some p)) s) ?_ fun K hK => ?_
  · rintro h2 ⟨s, _, o⟩
    refine meets_alive14.look ?_
    simp only [oB_some]
    exact ⟨by trivial, o.base⟩
  refine xLoop1 (fun (i : Int) h' => 0 ≤ i ∧ i ≤ n ∧ ∃ s : Ms, s.Ok ∧ MOwn h h' (.pointer (some p)) s) (fun (i : Int) _ => ((n : Int) - i).toNat) ?_ ⟨by omega, by omega, _, k0, o⟩
  rintro J i h2 ⟨i0, i1, s, ks, o⟩ hJ
  refine ⟨fun hx => ?_, fun hx => hK _ ⟨s, ks, o⟩⟩
  have hx := of_decide_eq_true hx
  have hw : IntKind.wrap .i64 (i + 1) = i + 1 := wrap64_id (by omega) (by omega)
  have hmu : ((n : Int) - (i + 1)).toNat < ((n : Int) - i).toNat := by omega
  have j0 : 0 ≤ i + 1 := by omega
  have j1 : i + 1 ≤ n := by omega
  have hi : i.toNat < es.length := by omega
  have step : ∀ h' s', s'.Ok → MOwn h h' (.pointer (some p)) s' → J (i + 1) h' := fun h' s' k' o' => hJ _ _ ⟨j0, j1, s', k', o'⟩ hmu
  clear hJ hmu j0 j1 hK
  obtain ⟨b, rfl, c0, c1, c2, c3, c4⟩ := (x2.le o.base).at_ i.toNat es[i.toNat] (List.getElem?_eq_getElem hi)
  generalize es[i.toNat] = e at c0 c1 c2 c3 c4
  refine xBlk_split (fun h' => ∃ s' : Ms, s'.Ok ∧ MOwn h h' (.pointer (some p)) s') (fun h' ⟨s', k', o'⟩ => by rw [hw]; exact step h' s' k' o') fun K hK => ?_
  clear step
  refine ⟨b, rfl, i0, hx, ?_⟩
  simp only [c0, c1, c2, c3, c4, oI_some]
  intro b6 n6
  refine xSt_mk (PH.upd_same _ _ _) rfl (by decide) (by simp [oneCell]) (by simp) ?_
  rw [PH.upd_upd, setN5]
  have l3 := PH.le_upd (O := .cells #[.int .i64 e.kind, .int .i64 e.thread, .int .i64 e.obj, .int .i64 e.arg, .int .i64 e.err] 29 (0, 0)) n6
  have e3 := PH.upd_same h2 b6 (.cells #[.int .i64 e.kind, .int .i64 e.thread, .int .i64 e.obj, .int .i64 e.arg, .int .i64 e.err] 29 (0, 0))
  obtain ⟨L, hp, r, l0, nL⟩ := o
  have offL : b6 ∉ L.all := fun hm => by obtain ⟨O, hO⟩ := r.known _ hm; rw [n6] at hO; cases hO
  have r3 := r.le l3
  have l03 := PH.le_trans l0 l3
  generalize h2.upd b6 (.cells #[.int .i64 e.kind, .int .i64 e.thread, .int .i64 e.obj, .int .i64 e.arg, .int .i64 e.err] 29 (0, 0)) = h3 at l3 e3 r3 l03 ⊢
  rw [hp]
  refine (meets_Clone r3).mono ?_
  rintro _ h4 ⟨L', rfl, r', l4, n4⟩
  simp only [mp, oP_some]
  have r4 := r3.le l4
  have e4 := l4 _ _ e3
  have l04 := PH.le_trans l03 l4
  simp only [xNn_some, add_mk, cell_mk, upd_at, del_at, if_true, if_false, Option.bind_some, List.getElem?_toArray, List.getElem?_cons_succ, List.getElem?_cons_zero, oI_some, oS_some, oM_some, oB_some, oP_some, oT_some, xIdx_some, Nat.zero_add, Nat.add_zero, Nat.mul_one, e4]
  refine (meets_theirs14 e).look ?_
  simp only [evV, oAgg_mk, xNn_some, add_mk, cell_mk, upd_at, del_at, if_true, if_false, Option.bind_some, List.getElem?_toArray, List.getElem?_cons_succ, List.getElem?_cons_zero, oI_some, oS_some, oM_some, oB_some, oP_some, oT_some, xIdx_some, Nat.zero_add, Nat.add_zero, Nat.mul_one]
  refine ⟨rfl, ?_⟩
  refine (meets_Apply r4 e ks.few).mono ?_
  rintro _ h5 ⟨rfl, r5, x5⟩
  have e5 := x5 _ _ e4 offL
  have dis : ∀ b ∈ L'.all, b ∉ L.all := fun b hb hm => by obtain ⟨O, hO⟩ := r3.known _ hm; rw [n4 b hb] at hO; cases hO
  have r5' := r'.ext x5 dis
  have o5 : MOwn h h5 (.pointer (some p)) (s.next e) := ⟨L, hp, r5, fun y O hO => x5 y O (l04 y O hO) (fun hm => by rw [nL y hm] at hO; cases hO), nL⟩
  have k5 := next_ok ks e
  have still := next_still ks e
  have intr := begin_intr (s := s) (e := e)
  clear x5 r4 r3 e4 e3 l4 l3 n4 r' l04 l03 r
  have fin := hK h5 ⟨_, k5, o5⟩
  simp only [xNn_some, add_mk, cell_mk, upd_at, del_at, if_true, if_false, Option.bind_some, List.getElem?_toArray, List.getElem?_cons_succ, List.getElem?_cons_zero, oI_some, oS_some, oM_some, oB_some, oP_some, oT_some, xIdx_some, Nat.zero_add, Nat.add_zero, Nat.mul_one, e5]
  refine xSc_or (e.err == 10) (fun _ J hJ => hJ) ?_
  simp only [xNn_some, add_mk, cell_mk, upd_at, del_at, if_true, if_false, Option.bind_some, List.getElem?_toArray, List.getElem?_cons_succ, List.getElem?_cons_zero, oI_some, oS_some, oM_some, oB_some, oP_some, oT_some, xIdx_some, Nat.zero_add, Nat.add_zero, Nat.mul_one, e5]
  refine xSc_or (e.err == 14) (fun _ J hJ => hJ) ?_
  simp only [xNn_some, add_mk, cell_mk, upd_at, del_at, if_true, if_false, Option.bind_some, List.getElem?_toArray, List.getElem?_cons_succ, List.getElem?_cons_zero, oI_some, oS_some, oM_some, oB_some, oP_some, oT_some, xIdx_some, Nat.zero_add, Nat.add_zero, Nat.mul_one, e5]
  refine xSc_or (e.err == 11) (fun _ J hJ => hJ) ?_
  refine xSc_or (e.err == 9 || e.err == 10 || e.err == 14 || e.err == 11) (fun _ J hJ => hJ) ?_
  refine xSc_and false (fun hb J hJ => ?_) ?_
  · have hs : s.next e = s := by
      apply still
      simp only [Bool.or_eq_true, bne_iff_ne, ne_eq, beq_iff_eq] at hb
      rcases hb with hb | ((hb | hb) | hb) | hb
      · exact .inl hb
      · exact .inr (.inl hb)
      · exact .inr (.inr (.inl hb))
      · exact .inr (.inr (.inr (.inl hb)))
      · exact .inr (.inr (.inr (.inr hb)))
    rw [hs] at r5
    refine (meets_Same r5 r5' ks.once).look ?_
    simp only [oB_some]
    exact hJ
  rw [Bool.and_false]
  refine ⟨fun hx => (by cases hx), fun _ => ?_⟩
  refine xDraw_self ?_
  simp only [xNn_some, add_mk, cell_mk, upd_at, del_at, if_true, if_false, Option.bind_some, List.getElem?_toArray, List.getElem?_cons_succ, List.getElem?_cons_zero, oI_some, oS_some, oM_some, oB_some, oP_some, oT_some, xIdx_some, Nat.zero_add, Nat.add_zero, Nat.mul_one, e5]
  refine xSc_and (e.kind == 4) (fun _ J hJ => hJ) ?_
  refine xSc_and (e.err == 12) (fun _ J hJ => hJ) ?_
  refine xSc_and false (fun hb J hJ => ?_) ?_
  · simp only [Bool.and_eq_true, beq_iff_eq] at hb
    obtain ⟨i1, i2, i3⟩ := intr hb.1.1 hb.1.2 hb.2
    rw [i3] at r5
    obtain ⟨f1, f2⟩ := flag_setFlag i1
    refine (meets_Flag r5' e.thread).look ?_
    simp only [oB_some, i1, i2]
    refine ⟨PH.le_refl _, ?_⟩
    refine xSc_or false (fun _ J hJ => ?_) ?_
    · refine (meets_Flag r5 e.thread).look ?_
      simp only [oB_some, f1, f2]
      exact ⟨PH.le_refl _, hJ⟩
    refine xSc_or false (fun _ J hJ => ?_) ?_
    · refine (meets_Owner r5 e.obj).look ?_
      simp only [oI_some]
      refine ⟨PH.le_refl _, ?_⟩
      refine (meets_Owner r5' e.obj).look ?_
      simp only [oI_some, at_setFlag, bne_self_eq_false]
      exact ⟨PH.le_refl _, hJ⟩
    refine xSc_or false (fun _ J hJ => ?_) hJ
    refine (meets_Count r5 e.obj).look ?_
    simp only [oI_some]
    refine ⟨PH.le_refl _, ?_⟩
    refine (meets_Count r5' e.obj).look ?_
    simp only [oI_some, at_setFlag, bne_self_eq_false]
    exact ⟨PH.le_refl _, hJ⟩
  rw [Bool.and_false]
  exact ⟨fun hx => (by cases hx), fun _ => fin⟩

end Go.Md

/-
  Calls that are copied; how many the model takes as they stand.
-/
set_option linter.unusedSimpArgs false
set_option linter.unusedVariables false
namespace Go.Ck
open Go Go.Sx Go.Md Go.Proofs Go.Proofs.Ytnnedfhpicdacaa

def ser : Ms → List Cl → Nat × Bool
  | _, [] => (0, true)
  | s, c :: l => if s.code c.event = 0 then ((ser (s.next c.event) l).1 + 1, (ser (s.next c.event) l).2) else (0, false)

theorem ser_cons (s : Ms) (c : Cl) (l : List Cl) : ser s (c :: l) = if s.code c.event = 0 then ((ser (s.next c.event) l).1 + 1, (ser (s.next c.event) l).2) else (0, false) := rfl

theorem meets_Serial {h : PH} {a : Option Addr} {n c : Nat} {l : List Cl} (x : ClsAt h a l) (hl : l.length = n) (hn : n ≤ 1000000) (t o m : Int) (ok : newOk t o m = true) (ho : o ≤ 8) (ht : t ≤ 8) :
    Meets Try.prog 31 #[.int .i64 t, .int .i64 o, .int .i64 m, .slice a n c] h fun v h' => v = .tuple #[.int .i64 (ser (Ms.new t o m) l).1, .bool (ser (Ms.new t o m) l).2] ∧ h' = h := by
  apply Meets.same
  apply P_check_Serial_of
  unfold P_check_Serial
  refine (meets_New t o m ok).mono ?_
  rintro _ h1 ⟨w, rfl, f⟩
  have own := MOwn.of_fresh (PH.le_refl h) f
  clear f
  obtain ⟨p, rfl⟩ := own.ptr
  have k0 := new_ok t o m ht ho
  generalize Ms.new t o m = s0 at own k0 ⊢
  simp only [oTup_mk, oIx_some, oP_some, oI_some, List.getElem?_toArray, List.getElem?_cons_zero, List.getElem?_cons_succ]
  refine ⟨rfl, fun hx => (by cases hx), fun _ => ?_⟩
  refine xBlk_split (fun h' => ser s0 l = (n, true) ∧ h.le h') ?_ fun K hK => ?_
  · rintro h' ⟨e, le⟩
    rw [e]
    exact ⟨rfl, le⟩
  refine xLoop1 (fun (i : Int) h' => 0 ≤ i ∧ i ≤ n ∧ ∃ s : Ms, s.Ok ∧ MOwn h h' (.pointer (some p)) s ∧ ser s0 l = (i.toNat + (ser s (l.drop i.toNat)).1, (ser s (l.drop i.toNat)).2)) (fun (i : Int) _ => ((n : Int) - i).toNat) ?_ ⟨by omega, by omega, s0, k0, own, by simp⟩
  rintro J i h2 ⟨i0, i1, s, ks, own, hs⟩ hJ
  refine ⟨fun hx => ?_, fun hx => ?_⟩
  · have hx := of_decide_eq_true hx
    have hw : IntKind.wrap .i64 (i + 1) = i + 1 := wrap64_id (by omega) (by omega)
    have hmu : ((n : Int) - (i + 1)).toNat < ((n : Int) - i).toNat := by omega
    have j0 : 0 ≤ i + 1 := by omega
    have j1 : i + 1 ≤ n := by omega
    have j2 : (i + 1).toNat = i.toNat + 1 := by omega
    have hi : i.toNat < l.length := by omega
    have hd : l.drop i.toNat = l[i.toNat] :: l.drop (i.toNat + 1) := List.drop_eq_getElem_cons hi
    rw [hd] at hs
    obtain ⟨b, rfl, c0, c1, c2, c3, c4, c5, c6⟩ := cls_at (x.le own.base) (List.getElem?_eq_getElem hi)
    generalize l[i.toNat] = e at c0 c1 c2 c3 c4 c5 c6 hs
    have step : ∀ h' s', s'.Ok → MOwn h h' (.pointer (some p)) s' → ser s0 l = (i.toNat + 1 + (ser s' (l.drop (i.toNat + 1))).1, (ser s' (l.drop (i.toNat + 1))).2) → J (i + 1) h' := fun h' s' k' o' e' => hJ _ _ ⟨j0, j1, s', k', o', by rw [j2]; exact e'⟩ hmu
    clear hJ hmu j0 j1 hK j2
    refine xBlk_split (fun h' => ∃ s' : Ms, s'.Ok ∧ MOwn h h' (.pointer (some p)) s' ∧ ser s0 l = (i.toNat + 1 + (ser s' (l.drop (i.toNat + 1))).1, (ser s' (l.drop (i.toNat + 1))).2)) (fun h' ⟨s', k', o', e'⟩ => by rw [hw]; exact step h' s' k' o' e') fun K hK => ?_
    clear step
    refine ⟨b, rfl, i0, hx, ?_⟩
    simp only [c0, c1, c2, c3, c4, c5, c6, oI_some]
    refine xBox rfl rfl rfl (by decide) (clL_one e) fun b6 h3 l3 n6 e3 => ?_
    have e3' : h3 b6 = some (.cells (clL e).toArray 61 (0, 0)) := e3
    have o3 := own.le l3
    simp only [xNn_some, add_mk, cell_mk, upd_at, del_at, if_true, if_false, Option.bind_some, List.getElem?_toArray, List.getElem?_cons_succ, List.getElem?_cons_zero, oI_some, oS_some, oM_some, oB_some, oP_some, oT_some, xIdx_some, Nat.zero_add, Nat.add_zero, Nat.mul_one, e3', clL]
    refine (o3.apply e.event ks.few).mono ?_
    rintro _ h5 ⟨rfl, o5⟩
    simp only [oI_some]
    rw [ser_cons] at hs
    refine ⟨fun hc => ?_, fun hc => ?_⟩
    · have hc : s.code e.event ≠ 0 := by simpa using hc
      rw [if_neg hc] at hs
      rw [hs]
      have : ((i.toNat : Nat) : Int) = i := by omega
      exact ⟨by simp [this], o5.base⟩
    · have hc : s.code e.event = 0 := by simpa using hc
      rw [if_pos hc] at hs
      exact hK _ ⟨_, next_ok ks e.event, o5, by rw [hs]; simp only [Prod.mk.injEq, and_true]; omega⟩
  · have hx := of_decide_eq_false hx
    have : l.drop i.toNat = [] := List.drop_eq_nil_of_le (by omega)
    rw [this] at hs
    refine hK _ ⟨?_, own.base⟩
    rw [hs]
    simp only [ser, Prod.mk.injEq, and_true]
    omega

theorem meets_Serial_no {h : PH} {a : Option Addr} {n c : Nat} (t o m : Int) (no : newOk t o m = false) :
    Meets Try.prog 31 #[.int .i64 t, .int .i64 o, .int .i64 m, .slice a n c] h fun v h' => v = .tuple #[.int .i64 0, .bool false] ∧ h' = h := by
  apply P_check_Serial_of
  unfold P_check_Serial
  refine (meets_New_no t o m no).look ?_
  simp only [oTup_mk, oIx_some, oP_some, oI_some, List.getElem?_toArray, List.getElem?_cons_zero, List.getElem?_cons_succ]
  exact ⟨rfl, fun _ => ⟨by trivial, by trivial⟩, fun hx => (by cases hx)⟩

theorem meets_theirs23 {h : PH} {a : Option Addr} {n c : Nat} {l : List Cl} (x : ClsAt h a l) (hl : l.length = n) (hn : n ≤ 1000000) :
    Meets Try.prog 26 #[.slice a n c] h fun v h' => ∃ p c' S, v = .slice p n c' ∧ RowIn clL 7 61 h' p n c' l S ∧ h.le h' ∧ ∀ b ∈ S, h b = none := by
  apply P_law23_theirs_of
  unfold P_law23_theirs
  refine xBlk_split3 (fun p m c' h' => m = n ∧ ∃ S, RowIn clL 7 61 h' p m c' l S ∧ h.le h' ∧ ∀ b ∈ S, h b = none) ?_ fun K hK => ?_
  · rintro p m c' h' ⟨rfl, S, r, le, nS⟩
    exact ⟨p, c', S, rfl, r, le, nS⟩
  refine xLoop4 (fun p m c' (i : Int) h' => 0 ≤ i ∧ i ≤ n ∧ ∃ S, RowIn clL 7 61 h' p m c' (l.take i.toNat) S ∧ h.le h' ∧ ∀ b ∈ S, h b = none) (fun _ _ _ (i : Int) _ => ((n : Int) - i).toNat) ?_ ⟨by omega, by omega, [], by simpa using RowIn.nil _ _, PH.le_refl h, by simp⟩
  rintro J p m c' i h2 ⟨i0, i1, S, r, le, nS⟩ hJ
  refine ⟨fun hx => ?_, fun hx => ?_⟩
  · have hx := of_decide_eq_true hx
    have hw : IntKind.wrap .i64 (i + 1) = i + 1 := wrap64_id (by omega) (by omega)
    have hmu : ((n : Int) - (i + 1)).toNat < ((n : Int) - i).toNat := by omega
    have j0 : 0 ≤ i + 1 := by omega
    have j1 : i + 1 ≤ n := by omega
    have j2 : (i + 1).toNat = i.toNat + 1 := by omega
    have hi : i.toNat < l.length := by omega
    have ht : l.take (i.toNat + 1) = l.take i.toNat ++ [l[i.toNat]] := List.take_succ_eq_append_getElem hi
    have len : (l.take i.toNat).length ≤ 1000000 := by rw [List.length_take]; omega
    obtain ⟨b, rfl, c0, c1, c2, c3, c4, c5, c6⟩ := cls_at (x.le le) (List.getElem?_eq_getElem hi)
    have step : ∀ p' m' c' h' S', RowIn clL 7 61 h' p' m' c' (l.take (i.toNat + 1)) S' → h.le h' → (∀ b ∈ S', h b = none) → J p' m' c' (i + 1) h' := fun p' m' c' h' S' r' l' n' => hJ _ _ _ _ _ ⟨j0, j1, S', by rw [j2]; exact r', l', n'⟩ hmu
    rw [ht] at step
    generalize l[i.toNat] = e at c0 c1 c2 c3 c4 c5 c6 step
    clear hJ hmu j0 j1 hK j2
    refine xBlk_split3 (fun p' m' c' h' => ∃ S', RowIn clL 7 61 h' p' m' c' (l.take i.toNat ++ [e]) S' ∧ h.le h' ∧ ∀ b ∈ S', h b = none) (fun p' m' c' h' ⟨S', r', l', n'⟩ => by rw [hw]; exact step p' m' c' h' S' r' l' n') fun K hK => ?_
    clear step
    refine ⟨b, rfl, i0, hx, ?_⟩
    simp only [c0, c1, c2, c3, c4, c5, c6, oI_some]
    refine xBox rfl rfl rfl (by decide) (clL_one e) fun b5 h3 l3 n5 e5 => ?_
    have e5' : h3 b5 = some (.cells (clL e).toArray 65 (0, 0)) := e5
    simp only [xNn_some, add_mk, cell_mk, upd_at, del_at, if_true, if_false, Option.bind_some, List.getElem?_toArray, List.getElem?_cons_succ, List.getElem?_cons_zero, oI_some, oS_some, oM_some, oB_some, oP_some, oT_some, xIdx_some, Nat.zero_add, Nat.add_zero, Nat.mul_one, e5', clL]
    refine xBox rfl rfl rfl (by decide) (by simp [oneCell]) fun b6 h4 l4 n6 e6 => ?_
    have f5 := l4 _ _ e5
    have f5' : h4 b5 = some (.cells (clL e).toArray 65 (0, 0)) := f5
    simp only [xNn_some, add_mk, cell_mk, upd_at, del_at, if_true, if_false, Option.bind_some, List.getElem?_toArray, List.getElem?_cons_succ, List.getElem?_cons_zero, oI_some, oS_some, oM_some, oB_some, oP_some, oT_some, xIdx_some, Nat.zero_add, Nat.add_zero, Nat.mul_one, e6, f5', clL]
    refine xNew_intro fun b32 h5 l5 n32 e32 => ?_
    have le5 := PH.le_trans le (PH.le_trans l3 (PH.le_trans l4 l5))
    have r5 := r.le (PH.le_trans l3 (PH.le_trans l4 l5))
    refine r5.app clL_len (clL_one e) e32 (by omega) ?_
    intro p' m' c'' h6 S' r6 x6 n6
    refine hK _ _ _ _ ⟨S', r6, fun y O hy => x6 y O (le5 _ _ hy) fun hm => (by rw [nS y hm] at hy; cases hy), fun b hb => ?_⟩
    rcases n6 b hb with h' | h'
    · exact nS b h'
    · exact none_of le5 h'
  · have hx := of_decide_eq_false hx
    have e : l.take i.toNat = l := List.take_of_length_le (by omega)
    rw [e] at r
    exact hK _ _ _ _ ⟨r.1.trans hl, S, r, le, nS⟩

end Go.Ck

/-
  Keys of maps that are integers; sets of calls as bits.
-/
set_option linter.unusedSimpArgs false
set_option linter.unusedVariables false
namespace Go.Sx
open Go

def isKeyI (k : IntKind) (v : Value) : Prop := ∃ n, v = .int k n
theorem sameBits_int (k : IntKind) (a b : Int) (n : Nat) : Instr.sameBits (n + 1) (.int k a) (.int k b) = (a == b) := by
  simp [Instr.sameBits]
theorem keyLawInt {P : Program} {t : TypeId} {k : IntKind} (hu : P.underlying t = some (.int k)) : KeyLaw P t (isKeyI k) := by
  refine ⟨fun v _ em w => run_checkKey_int em 9999 v hu, ?_, ?_⟩
  · rintro v es ⟨a, rfl⟩ hes w
    have ask : ∀ (es : List MapEntry) (i : Nat), (∀ e ∈ es, isKeyI k e.key) → Instr.findNow (.int k) (.int k a) es i = some (findE es (.int k a) i) := by
      intro es
      induction es with
      | nil => intro i _; rfl
      | cons e es ih =>
        intro i hes
        obtain ⟨c, hc⟩ := hes e (List.mem_cons_self ..)
        unfold Instr.findNow findE
        rw [hc, sameBits_int]
        simp only [Instr.sameNow, if_true]
        by_cases hh : (a == c) = true
        · simp [hh]
        · have hh' : (a == c) = false := by simpa using hh
          simp only [hh', Bool.false_eq_true, if_false]
          exact ih (i + 1) fun e he => hes e (List.mem_cons_of_mem _ he)
    unfold Instr.findKey
    rw [Sem.run_bind, run_underlying hu]
    simp only [Result.andThen_ok, ask es 0 hes]
    rfl
  · rintro v v' ⟨a, rfl⟩ ⟨b, rfl⟩
    rw [sameBits_int, sameBits_int, Bool.eq_iff_iff]
    constructor <;> intro h <;> simp at h ⊢ <;> exact h.symm

theorem wrapU (n : Nat) (h : n < 2 ^ 64) : IntKind.wrap .u64 (n : Int) = n := by
  unfold IntKind.wrap
  simp only [IntKind.bits, IntKind.signed, Bool.false_and, if_false, Bool.false_eq_true]
  exact Int.emod_eq_of_lt (by omega) (by exact_mod_cast h)
theorem ofIntN (n : Nat) : BitVec.ofInt 64 (n : Int) = BitVec.ofNat 64 n := BitVec.ofInt_natCast 64 n

theorem shl_one (k : Nat) (hk : k < 64) : IntKind.wrap .u64 (1 * 2 ^ (min ((k : Int).toNat) (IntKind.bits .u64))) = ((2 ^ k : Nat) : Int) := by
  have : min ((k : Int).toNat) (IntKind.bits .u64) = k := by
    show min ((k : Int).toNat) 64 = k
    simp; omega
  rw [this, Int.one_mul]
  have := wrapU (2 ^ k) (Nat.pow_lt_pow_right (by decide) hk)
  rw [← this]
  congr 1
theorem powC (k : Nat) : (2 ^ k : Int) = ((2 ^ k : Nat) : Int) := by simp
theorem shr_bit (d k : Nat) (hk : k < 64) (hd : d < 2 ^ 64) :
    (IntKind.wrap .u64 (BitVec.ofInt (IntKind.bits .u64) ((d : Int).fdiv (2 ^ (min ((k : Int).toNat) (IntKind.bits .u64)))) &&& BitVec.ofInt (IntKind.bits .u64) 1).toNat == 1) = d.testBit k := by
  have e0 : min ((k : Int).toNat) (IntKind.bits .u64) = k := by
    show min ((k : Int).toNat) 64 = k
    simp; omega
  have e1 : (d : Int).fdiv (2 ^ k) = ((d >>> k : Nat) : Int) := by
    rw [Nat.shiftRight_eq_div_pow, powC, Int.fdiv_eq_ediv_of_nonneg _ (Int.natCast_nonneg _)]
    exact (Int.natCast_ediv _ _).symm
  rw [e0, e1]
  show (IntKind.wrap .u64 ((BitVec.ofInt 64 ((d >>> k : Nat) : Int) &&& BitVec.ofInt 64 ((1 : Nat) : Int)).toNat : Int) == 1) = d.testBit k
  rw [ofIntN, ofIntN]
  have e2 : (BitVec.ofNat 64 (d >>> k) &&& BitVec.ofNat 64 1).toNat = (d >>> k) % 2 := by
    rw [BitVec.toNat_and, BitVec.toNat_ofNat, BitVec.toNat_ofNat, Nat.mod_eq_of_lt (Nat.lt_of_le_of_lt (Nat.shiftRight_le _ _) hd)]
    exact Nat.and_one_is_mod _
  rw [e2, wrapU _ (by omega)]
  have e3 : d.testBit k = ((d >>> k) % 2 == 1) := by
    rw [Nat.testBit, Nat.and_comm, Nat.and_one_is_mod]
    rcases Nat.mod_two_eq_zero_or_one (d >>> k) with h | h <;> simp [h]
  rw [e3]
  rcases Nat.mod_two_eq_zero_or_one (d >>> k) with h | h <;> simp [h]
theorem or_bits (d e : Nat) (hd : d < 2 ^ 64) (he : e < 2 ^ 64) :
    IntKind.wrap .u64 (BitVec.ofInt (IntKind.bits .u64) (d : Int) ||| BitVec.ofInt (IntKind.bits .u64) (e : Int)).toNat = ((d ||| e : Nat) : Int) := by
  show IntKind.wrap .u64 ((BitVec.ofInt 64 (d : Int) ||| BitVec.ofInt 64 (e : Int)).toNat : Int) = _
  rw [ofIntN, ofIntN]
  have : (BitVec.ofNat 64 d ||| BitVec.ofNat 64 e).toNat = d ||| e := by
    rw [BitVec.toNat_or, BitVec.toNat_ofNat, BitVec.toNat_ofNat, Nat.mod_eq_of_lt hd, Nat.mod_eq_of_lt he]
  rw [this]
  exact wrapU _ (Nat.or_lt_two_pow hd he)
theorem andNot_bits (o d : Nat) (ho : o < 2 ^ 64) (hd : d < 2 ^ 64) :
    (IntKind.wrap .u64 (BitVec.ofInt (IntKind.bits .u64) (o : Int) &&& ~~~(BitVec.ofInt (IntKind.bits .u64) (d : Int))).toNat != 0) = true ↔ ∃ i, i < 64 ∧ o.testBit i = true ∧ d.testBit i = false := by
  show (IntKind.wrap .u64 ((BitVec.ofInt 64 (o : Int) &&& ~~~(BitVec.ofInt 64 (d : Int))).toNat : Int) != 0) = true ↔ _
  rw [ofIntN, ofIntN, wrapU _ (BitVec.isLt _)]
  have e1 : (((BitVec.ofNat 64 o &&& ~~~(BitVec.ofNat 64 d)).toNat : Int) != 0) = true ↔ BitVec.ofNat 64 o &&& ~~~(BitVec.ofNat 64 d) ≠ 0#64 := by
    rw [bne_iff_ne]
    constructor
    · intro h h2; rw [h2] at h; exact h rfl
    · intro h h2; exact h (BitVec.eq_of_toNat_eq (by simpa using h2))
  rw [e1]
  have bit : ∀ i, i < 64 → (BitVec.ofNat 64 o &&& ~~~(BitVec.ofNat 64 d)).getLsbD i = (o.testBit i && !d.testBit i) := by
    intro i hi
    rw [BitVec.getLsbD_and, BitVec.getLsbD_not, BitVec.getLsbD_ofNat, BitVec.getLsbD_ofNat]
    simp [hi]
  constructor
  · intro h
    by_cases hx : ∃ i, i < 64 ∧ o.testBit i = true ∧ d.testBit i = false
    · exact hx
    · exfalso
      apply h
      apply BitVec.eq_of_getLsbD_eq
      intro i hi
      rw [bit i hi]
      simp only [BitVec.getLsbD_zero]
      cases h1 : o.testBit i with
      | false => rfl
      | true =>
        cases h2 : d.testBit i with
        | true => rfl
        | false => exact absurd ⟨i, hi, h1, h2⟩ hx
  · rintro ⟨i, hi, h1, h2⟩ h
    have := bit i hi
    rw [h, h1, h2] at this
    simp at this
end Go.Sx

/-
  Of each call, those that were over ahead of it.
-/
set_option linter.unusedSimpArgs false
set_option linter.unusedVariables false
namespace Go.Ck
open Go Go.Sx Go.Md Go.Proofs Go.Proofs.Ytnnedfhpicdacaa

def ovrN (l : List Cl) (k : Nat) : Nat → Nat
  | 0 => 0
  | m + 1 => if (cl l m).to < (cl l k).fr then ovrN l k m ||| 2 ^ m else ovrN l k m
def ovr (l : List Cl) (k : Nat) : Nat := ovrN l k l.length
theorem ovrN_bit (l : List Cl) (k : Nat) : ∀ m i, (ovrN l k m).testBit i = (decide (i < m) && decide ((cl l i).to < (cl l k).fr)) := by
  intro m
  induction m with
  | zero => intro i; simp [ovrN]
  | succ m ih =>
    intro i
    unfold ovrN
    split
    · rename_i h
      rw [testBit_or_pow, ih]
      by_cases e : m = i
      · subst e; simp [h]
      · have : decide (i < m + 1) = decide (i < m) := by
          rw [decide_eq_decide]; omega
        rw [this]; simp [e]
    · rename_i h
      rw [ih]
      by_cases e : m = i
      · subst e; simp [h]
      · have : decide (i < m + 1) = decide (i < m) := by
          rw [decide_eq_decide]; omega
        rw [this]
theorem ovr_bit (l : List Cl) (k i : Nat) : (ovr l k).testBit i = (decide (i < l.length) && decide ((cl l i).to < (cl l k).fr)) := ovrN_bit l k _ i
theorem ovrN_lt (l : List Cl) (k m : Nat) : ovrN l k m < 2 ^ m := by
  induction m with
  | zero => simp [ovrN]
  | succ m ih =>
    have h2 : 2 ^ m < 2 ^ (m + 1) := Nat.pow_lt_pow_right (by decide) (by omega)
    unfold ovrN
    split
    · exact Nat.or_lt_two_pow (by omega) h2
    · omega
theorem ovr_lt (l : List Cl) (k : Nat) (h : l.length ≤ 63) : ovr l k < 2 ^ 64 := Nat.lt_of_lt_of_le (ovrN_lt l k _) (Nat.pow_le_pow_right (by decide) (by omega))
theorem ovrN_lt64 (l : List Cl) (k m : Nat) (h : m ≤ 63) : ovrN l k m < 2 ^ 64 := Nat.lt_of_lt_of_le (ovrN_lt l k _) (Nat.pow_le_pow_right (by decide) (by omega))
/-- Whether a call may be the next one, as the code asks. -/
theorem free_code (l : List Cl) (done k : Nat) (hn : l.length ≤ 63) (hd : done < 2 ^ 64) (hk : k < 64) :
    (done.testBit k || (IntKind.wrap .u64 (BitVec.ofInt (IntKind.bits .u64) ((ovr l k : Nat) : Int) &&& ~~~(BitVec.ofInt (IntKind.bits .u64) (done : Int))).toNat != 0)) = !freeK l done k := by
  have h1 := andNot_bits (ovr l k) done (ovr_lt l k hn) hd
  generalize (IntKind.wrap .u64 (BitVec.ofInt (IntKind.bits .u64) ((ovr l k : Nat) : Int) &&& ~~~(BitVec.ofInt (IntKind.bits .u64) (done : Int))).toNat != 0) = b at h1
  cases hb : done.testBit k with
  | true => simp [freeK, hb]
  | false =>
    rw [Bool.false_or]
    cases hf : freeK l done k with
    | true =>
      obtain ⟨_, h2⟩ := free_spec hf
      cases b with
      | false => rfl
      | true =>
        obtain ⟨i, _, ho, hd'⟩ := h1.1 rfl
        rw [ovr_bit] at ho
        simp only [Bool.and_eq_true, decide_eq_true_eq] at ho
        rw [h2 i ho.1 ho.2] at hd'
        cases hd'
    | false =>
      cases b with
      | true => rfl
      | false =>
        have : freeK l done k = true := by
          refine free_mk hb fun i hi hlt => ?_
          cases hx : done.testBit i with
          | true => rfl
          | false =>
            have := h1.2 ⟨i, by omega, by rw [ovr_bit]; simp [hi, hlt], hx⟩
            cases this
        rw [hf] at this; cases this

def uL (x : Nat) : List Value := [.int .u64 x]
theorem uL_len (x : Nat) : (uL x).length = 1 := rfl

theorem meets_ahead {h : PH} {a : Option Addr} {n c : Nat} {l : List Cl} (x : ClsAt h a l) (hl : l.length = n) (hn : n ≤ 60) :
    Meets Try.prog 88 #[.slice a n c] h fun v h' => ∃ p c' S, v = .slice p n c' ∧ RowIn uL 1 167 h' p n c' ((List.range n).map (ovr l)) S ∧ h.le h' ∧ ∀ b ∈ S, h b = none := by
  apply P_check_ahead_of
  unfold P_check_ahead
  refine xBlk_split3 (fun p m c' h' => m = n ∧ ∃ S, RowIn uL 1 167 h' p m c' ((List.range n).map (ovr l)) S ∧ h.le h' ∧ ∀ b ∈ S, h b = none) ?_ fun K hK => ?_
  · rintro p m c' h' ⟨rfl, S, r, le, nS⟩
    exact ⟨p, c', S, rfl, r, le, nS⟩
  refine xLoop4 (fun p m c' (i : Int) h' => 0 ≤ i ∧ i ≤ n ∧ ∃ S, RowIn uL 1 167 h' p m c' ((List.range i.toNat).map (ovr l)) S ∧ h.le h' ∧ ∀ b ∈ S, h b = none) (fun _ _ _ (i : Int) _ => ((n : Int) - i).toNat) ?_ ⟨by omega, by omega, [], by simpa using RowIn.nil _ _, PH.le_refl h, by simp⟩
  rintro J p m c' i h2 ⟨i0, i1, S, r, le, nS⟩ hJ
  refine ⟨fun hx => ?_, fun hx => ?_⟩
  · have hx := of_decide_eq_true hx
    have hw : IntKind.wrap .i64 (i + 1) = i + 1 := wrap64_id (by omega) (by omega)
    have hmu : ((n : Int) - (i + 1)).toNat < ((n : Int) - i).toNat := by omega
    have j0 : 0 ≤ i + 1 := by omega
    have j1 : i + 1 ≤ n := by omega
    have j2 : (i + 1).toNat = i.toNat + 1 := by omega
    have hi : i.toNat < l.length := by omega
    have len : ((List.range i.toNat).map (ovr l)).length ≤ 1000 := by simp; omega
    have step : ∀ p' m' c' h' S', RowIn uL 1 167 h' p' m' c' ((List.range i.toNat).map (ovr l) ++ [ovr l i.toNat]) S' → h.le h' → (∀ b ∈ S', h b = none) → J p' m' c' (i + 1) h' := fun p' m' c' h' S' r' l' n' => hJ _ _ _ _ _ ⟨j0, j1, S', by rw [j2, List.range_succ, List.map_append]; exact r', l', n'⟩ hmu
    obtain ⟨b, rfl, c0, c1, c2, c3, c4, c5, c6⟩ := cls_at (x.le le) (List.getElem?_eq_getElem hi)
    have hcl : cl l i.toNat = l[i.toNat] := by simp [cl, List.getD_eq_getElem?_getD, hi]
    rw [← hcl] at c0 c1 c2 c3 c4 c5 c6
    clear hJ hmu j0 j1 hK j2
    refine xBlk_split3 (fun p' m' c' h' => ∃ S', RowIn uL 1 167 h' p' m' c' ((List.range i.toNat).map (ovr l) ++ [ovr l i.toNat]) S' ∧ h.le h' ∧ ∀ b ∈ S', h b = none) (fun p' m' c' h' ⟨S', r', l', n'⟩ => by rw [hw]; exact step p' m' c' h' S' r' l' n') fun K hK => ?_
    clear step
    refine ⟨b, rfl, i0, hx, ?_⟩
    simp only [c0, c1, c2, c3, c4, c5, c6, oI_some]
    refine xBox rfl rfl rfl (by decide) (clL_one (cl l i.toNat)) fun b5 h3 l3 n5 e5 => ?_
    have e5' : h3 b5 = some (.cells (clL (cl l i.toNat)).toArray 61 (0, 0)) := e5
    have le3 := PH.le_trans le l3
    have r3 := r.le l3
    clear e5 c0 c1 c2 c3 c4 c5 c6 l3 n5 r le
    refine xBlk_split1 (fun (u : Int) h' => u = ((ovr l i.toNat : Nat) : Int) ∧ h3.le h') ?_ fun K2 hK2 => ?_
    · rintro u h4 ⟨rfl, l4⟩
      refine xNew_intro fun b34 h5 l5 n34 e34 => ?_
      have r5 := (r3.le l4).le l5
      have le5 := PH.le_trans le3 (PH.le_trans l4 l5)
      refine r5.app (x := ovr l i.toNat) uL_len (by simp [uL, oneCell]) e34 (by omega) ?_
      intro p' m' c'' h6 S' r6 x6 n6
      refine hK _ _ _ _ ⟨S', r6, fun y O hy => x6 y O (le5 _ _ hy) fun hm => (by rw [nS y hm] at hy; cases hy), fun b hb => ?_⟩
      rcases n6 b hb with h' | h'
      · exact nS b h'
      · exact none_of le5 h'
    refine xLoop2 (fun (u j : Int) h' => 0 ≤ j ∧ j ≤ n ∧ u = ((ovrN l i.toNat j.toNat : Nat) : Int) ∧ h3.le h') (fun _ (j : Int) _ => ((n : Int) - j).toNat) ?_ ⟨by omega, by omega, by simp [ovrN], PH.le_refl _⟩
    rintro J2 u j h4 ⟨q0, q1, rfl, l4⟩ hJ2
    refine ⟨fun hy => ?_, fun hy => ?_⟩
    · have hy := of_decide_eq_true hy
      have hw2 : IntKind.wrap .i64 (j + 1) = j + 1 := wrap64_id (by omega) (by omega)
      have hmu : ((n : Int) - (j + 1)).toNat < ((n : Int) - j).toNat := by omega
      have j2 : (j + 1).toNat = j.toNat + 1 := by omega
      have hj : j.toNat < l.length := by omega
      have q2 : 0 ≤ j + 1 := by omega
      have q3 : j + 1 ≤ n := by omega
      have step : ∀ h', h3.le h' → J2 ((ovrN l i.toNat (j.toNat + 1) : Nat) : Int) (j + 1) h' := fun h' l' => hJ2 _ _ _ ⟨q2, q3, by rw [j2], l'⟩ hmu
      obtain ⟨b', hb', c0, c1, c2, c3, c4, c5, c6⟩ := cls_at (x.le (PH.le_trans le3 l4)) (List.getElem?_eq_getElem hj)
      injection hb' with hb'
      subst hb'
      have hcl : cl l j.toNat = l[j.toNat] := by simp [cl, List.getD_eq_getElem?_getD, hj]
      rw [← hcl] at c0 c1 c2 c3 c4 c5 c6
      clear hJ2 hmu q2 q3 hK2
      refine xBlk_split1 (fun (u : Int) h' => u = ((ovrN l i.toNat (j.toNat + 1) : Nat) : Int) ∧ h3.le h') (fun u h' ⟨e, l'⟩ => by subst e; rw [hw2]; exact step h' l') fun K3 hK3 => ?_
      refine ⟨b, rfl, q0, hy, ?_⟩
      simp only [c0, c1, c2, c3, c4, c5, c6, oI_some]
      refine xBox rfl rfl rfl (by decide) (clL_one (cl l j.toNat)) fun b8 h5 l5 n8 e8 => ?_
      have e8' : h5 b8 = some (.cells (clL (cl l j.toNat)).toArray 61 (0, 0)) := e8
      have f5 := l5 _ _ (l4 _ _ e5')
      have le5 := PH.le_trans l4 l5
      simp only [xNn_some, add_mk, cell_mk, upd_at, del_at, if_true, if_false, Option.bind_some, List.getElem?_toArray, List.getElem?_cons_succ, List.getElem?_cons_zero, oI_some, oS_some, oM_some, oB_some, oP_some, oT_some, xIdx_some, Nat.zero_add, Nat.add_zero, Nat.mul_one, e8', f5, clL]
      have hj64 : j.toNat < 64 := by omega
      have hjc : j = ((j.toNat : Nat) : Int) := by omega
      refine ⟨fun hc => ?_, fun hc => ?_⟩
      · have hc := of_decide_eq_true hc
        refine ⟨q0, ?_⟩
        refine hK3 _ _ ⟨?_, le5⟩
        have e1 : ovrN l i.toNat (j.toNat + 1) = ovrN l i.toNat j.toNat ||| 2 ^ j.toNat := by
          show (if _ then _ else _) = _
          rw [if_pos hc]
        have e2 := shl_one j.toNat hj64
        rw [← hjc] at e2
        rw [e2, or_bits _ _ (ovrN_lt64 _ _ _ (by omega)) (Nat.pow_lt_pow_right (by decide) hj64), e1]
      · have hc := of_decide_eq_false hc
        refine hK3 _ _ ⟨?_, le5⟩
        have e1 : ovrN l i.toNat (j.toNat + 1) = ovrN l i.toNat j.toNat := by
          show (if _ then _ else _) = _
          rw [if_neg hc]
        rw [e1]
    · have hy := of_decide_eq_false hy
      have : j.toNat = l.length := by omega
      refine hK2 _ _ ⟨?_, l4⟩
      rw [this]; rfl
  · have hx := of_decide_eq_false hx
    have e : i.toNat = n := by omega
    rw [e] at r
    exact hK _ _ _ _ ⟨r.1.trans (by simp), S, r, le, nS⟩

end Go.Ck

/-
  Two models with nobody who waits, or left: if they are told the same, they are.
-/
set_option linter.unusedSimpArgs false
set_option linter.unusedVariables false
namespace Go.Md
open Go Go.Sx Go.Proofs Go.Proofs.Ytnnedfhpicdacaa

def mo0 : Mo := ⟨-1, 0, 0⟩
theorem take_succ_getD {α : Type} {l : List α} {n : Nat} (d : α) (h : n < l.length) : l.take (n + 1) = l.take n ++ [l.getD n d] := by
  rw [List.take_succ_eq_append_getElem h, List.getD_eq_getElem?_getD, List.getElem?_eq_getElem h]; rfl
theorem meets_eq_mons {h : PH} {a b : Nat} {l l' : List Mo} {j j' : List Value} {c c' : Nat} (ha : h a = some (.cells (moArr l j) 117 (0, 0))) (hb : h b = some (.cells (moArr l' j') 117 (0, 0))) (h8 : l.length ≤ 8) :
    Meets Try.prog 53 #[.slice (some ⟨a, 0, none⟩) l.length c, .slice (some ⟨b, 0, none⟩) l'.length c'] h fun v h' => (∃ r, v = .bool r ∧ (r = true → l = l')) ∧ h' = h := by
  apply P_slices_Equal_model_monitor_model_monitor_of
  unfold P_slices_Equal_model_monitor_model_monitor
  refine ⟨fun hx => ⟨⟨false, rfl, fun h => (by cases h)⟩, rfl⟩, fun hx => ?_⟩
  have hlen : l.length = l'.length := by simp at hx; omega
  refine xLoop1 (fun (x : Int) h' => h' = h ∧ 0 ≤ x ∧ x ≤ l.length ∧ l.take x.toNat = l'.take x.toNat) (fun (x : Int) _ => ((l.length : Int) - x).toNat) ?_ ⟨rfl, by omega, by omega, rfl⟩
  rintro J x _ ⟨rfl, x0, x1, pre⟩ hJ
  refine ⟨fun hc => ?_, fun hc => ?_⟩
  · have hc := of_decide_eq_true hc
    have hn : x.toNat < l.length := by omega
    have hn' : x.toNat < l'.length := by omega
    have hc' : x < (l'.length : Int) := by omega
    have hw : IntKind.wrap .i64 (x + 1) = x + 1 := wrap64_id (by omega) (by omega)
    have hmu : ((l.length : Int) - (x + 1)).toNat < ((l.length : Int) - x).toNat := by omega
    have x0' : 0 ≤ x + 1 := by omega
    have x1' : x + 1 ≤ l.length := by omega
    have x2' : (x + 1).toNat = x.toNat + 1 := by omega
    refine xDraw_self ?_
    simp only [xNn_some, add_mk, cell_mk, upd_at, del_at, if_true, if_false, Option.bind_some, List.getElem?_toArray, List.getElem?_cons_succ, List.getElem?_cons_zero, oI_some, oS_some, oM_some, oB_some, oP_some, oT_some, xIdx_some, Nat.zero_add, Nat.add_zero, Nat.mul_one, ha, hb, moArr_0 hn, moArr_1 hn, moArr_2 hn, moArr_0 hn', moArr_1 hn', moArr_2 hn']
    have t1 := take_succ_getD mo0 hn
    have t2 := take_succ_getD mo0 hn'
    have e1 : l.getD x.toNat ⟨-1, 0, 0⟩ = l.getD x.toNat mo0 := rfl
    have e2 : l'.getD x.toNat ⟨-1, 0, 0⟩ = l'.getD x.toNat mo0 := rfl
    rw [e1, e2]
    generalize l.getD x.toNat mo0 = m at t1 ⊢
    generalize l'.getD x.toNat mo0 = m' at t2 ⊢
    refine ⟨x0, hc, x0, hc', ([m.owner, m.count, m.hash] == [m'.owner, m'.count, m'.hash]), ?_, fun hx => ?_, fun hx => ?_⟩
    · exact eqLaw_ints (P := Try.prog) (t := 117) [.i64, .i64, .i64] [m.owner, m.count, m.hash] [m'.owner, m'.count, m'.hash] (by kernel_rfl) rfl rfl
    · exact ⟨⟨false, rfl, fun h => (by cases h)⟩, by trivial⟩
    · rw [hw]
      have hm : m = m' := by
        have : ([m.owner, m.count, m.hash] == [m'.owner, m'.count, m'.hash]) = true := by simpa using hx
        have := eq_of_beq this
        simp only [List.cons.injEq, and_true] at this
        cases m; cases m'; simp_all
      refine hJ _ _ ⟨rfl, x0', x1', ?_⟩ hmu
      rw [x2', t1, t2, pre, hm]
  · have hc := of_decide_eq_false hc
    refine ⟨⟨true, rfl, fun _ => ?_⟩, rfl⟩
    have e1 : l.take x.toNat = l := List.take_of_length_le (by omega)
    have e2 : l'.take x.toNat = l' := List.take_of_length_le (by omega)
    rw [e1, e2] at pre; exact pre
theorem meets_eq_flags {h : PH} {a b : Nat} {l l' : List Bool} {j j' : List Value} {c c' : Nat} (ha : h a = some (.cells (flArr l j) 4 (0, 0))) (hb : h b = some (.cells (flArr l' j') 4 (0, 0))) (h8 : l.length ≤ 8) :
    Meets Try.prog 54 #[.slice (some ⟨a, 0, none⟩) l.length c, .slice (some ⟨b, 0, none⟩) l'.length c'] h fun v h' => (∃ r, v = .bool r ∧ (r = true → l = l')) ∧ h' = h := by
  apply P_slices_Equal_bool_bool_of
  unfold P_slices_Equal_bool_bool
  refine ⟨fun hx => ⟨⟨false, rfl, fun h => (by cases h)⟩, rfl⟩, fun hx => ?_⟩
  have hlen : l.length = l'.length := by simp at hx; omega
  refine xLoop1 (fun (x : Int) h' => h' = h ∧ 0 ≤ x ∧ x ≤ l.length ∧ l.take x.toNat = l'.take x.toNat) (fun (x : Int) _ => ((l.length : Int) - x).toNat) ?_ ⟨rfl, by omega, by omega, rfl⟩
  rintro J x _ ⟨rfl, x0, x1, pre⟩ hJ
  refine ⟨fun hc => ?_, fun hc => ?_⟩
  · have hc := of_decide_eq_true hc
    have hn : x.toNat < l.length := by omega
    have hn' : x.toNat < l'.length := by omega
    have hc' : x < (l'.length : Int) := by omega
    have hw : IntKind.wrap .i64 (x + 1) = x + 1 := wrap64_id (by omega) (by omega)
    have hmu : ((l.length : Int) - (x + 1)).toNat < ((l.length : Int) - x).toNat := by omega
    have x0' : 0 ≤ x + 1 := by omega
    have x1' : x + 1 ≤ l.length := by omega
    have x2' : (x + 1).toNat = x.toNat + 1 := by omega
    refine xDraw_self ?_
    simp only [xNn_some, add_mk, cell_mk, upd_at, del_at, if_true, if_false, Option.bind_some, List.getElem?_toArray, List.getElem?_cons_succ, List.getElem?_cons_zero, oI_some, oS_some, oM_some, oB_some, oP_some, oT_some, xIdx_some, Nat.zero_add, Nat.add_zero, Nat.mul_one, ha, hb, flArr_get hn, flArr_get hn']
    have t1 := take_succ_getD false hn
    have t2 := take_succ_getD false hn'
    generalize l.getD x.toNat false = m at t1 ⊢
    generalize l'.getD x.toNat false = m' at t2 ⊢
    refine ⟨x0, hc, x0, hc', fun hx => ?_, fun hx => ?_⟩
    · exact ⟨⟨false, rfl, fun h => (by cases h)⟩, by trivial⟩
    · rw [hw]
      have hm : m = m' := by revert hx; cases m <;> cases m' <;> simp
      refine hJ _ _ ⟨rfl, x0', x1', ?_⟩ hmu
      rw [x2', t1, t2, pre, hm]
  · have hc := of_decide_eq_false hc
    refine ⟨⟨true, rfl, fun _ => ?_⟩, rfl⟩
    have e1 : l.take x.toNat = l := List.take_of_length_le (by omega)
    have e2 : l'.take x.toNat = l' := List.take_of_length_le (by omega)
    rw [e1, e2] at pre; exact pre

/-- Nobody waits, or left. -/
structure Ms.Flat (s : Ms) : Prop where
  w : s.waits = []
  l : s.left = []
theorem meets_Same_flat {h : PH} {L L' : ML} {s s' : Ms} (r : MRep h L s) (r' : MRep h L' s') (k : s.Flat) (k' : s'.Flat) : Meets Try.prog 16 #[mp L, mp L'] h fun v h' => (∃ b, v = .bool b ∧ (b = true → s = s')) ∧ h' = h := by
  have cw := r.cw
  have cw' := r'.cw
  have cl := r.cl
  have cl' := r'.cl
  rw [k.w] at cw
  rw [k'.w] at cw'
  rw [k.l] at cl
  rw [k'.l] at cl'
  have o1 : Pl.Once ([] : Pl Int) := by simp [Pl.Once]
  have o2 : Pl.Once ([] : Pl (Int × Int)) := by simp [Pl.Once]
  obtain ⟨c1, c2, cm⟩ := r.cm
  obtain ⟨c3, c4, cm'⟩ := r'.cm
  obtain ⟨j1, co⟩ := r.co
  obtain ⟨j2, co'⟩ := r'.co
  obtain ⟨j3, cf⟩ := r.cf
  obtain ⟨j4, cf'⟩ := r'.cf
  apply P_model_Model_Same_of
  unfold P_model_Model_Same
  refine (meets_ok r).look ?_
  simp only [oB_some]
  refine xSc_or false (fun _ J hJ => ?_) ⟨fun hx => (by cases hx), fun _ => ?_⟩
  · refine (meets_ok r').look ?_
    simp only [oB_some]
    exact hJ
  refine xDraw_self ?_
  simp only [xNn_some, add_mk, cell_mk, upd_at, del_at, if_true, if_false, Option.bind_some, List.getElem?_toArray, List.getElem?_cons_succ, List.getElem?_cons_zero, oI_some, oS_some, oM_some, oB_some, oP_some, oT_some, xIdx_some, Nat.zero_add, Nat.add_zero, Nat.mul_one, cm, cm']
  refine ⟨fun hm => ?_, fun hm => ?_⟩
  · have hm := beq_iff_eq.1 hm
    refine (meets_eq_mons co co' r.nm).mono ?_
    rintro _ _ ⟨⟨x, rfl, hx⟩, rfl⟩
    simp only [oB_some]
    refine ⟨PH.le_refl _, fun hb => ?_, fun hb => ?_⟩
    · refine (meets_eq_flags cf cf' r.nf).mono ?_
      rintro _ _ ⟨⟨y, rfl, hy⟩, rfl⟩
      simp only [oB_some]
      refine ⟨PH.le_refl _, fun hb2 => ?_, fun hb2 => ?_⟩
      · refine (meets_equal_waits cw cw' o1).look ?_
        simp only [oB_some]
        refine ⟨PH.le_refl _, ?_⟩
        refine ⟨fun _ => ?_, fun hb3 => (by cases hb3)⟩
        refine (meets_equal_left cl cl' o2).look ?_
        simp only [oB_some]
        refine ⟨PH.le_refl _, ⟨true, rfl, fun _ => ?_⟩, by trivial⟩
        obtain ⟨m1, m2, m3, m4, m5⟩ := s
        obtain ⟨n1, n2, n3, n4, n5⟩ := s'
        have a1 := hx hb
        have a2 := hy hb2
        have a3 := k.w; have a4 := k'.w; have a5 := k.l; have a6 := k'.l
        dsimp only at hm a1 a2 a3 a4 a5 a6
        subst hm a1 a2 a3 a4 a5 a6
        rfl
      · subst hb2
        exact xSc_and false (fun h => (by cases h)) ⟨⟨false, rfl, fun h => (by cases h)⟩, rfl⟩
    · subst hb
      refine xSc_and false (fun h => (by cases h)) ?_
      exact xSc_and false (fun h => (by cases h)) ⟨⟨false, rfl, fun h => (by cases h)⟩, rfl⟩
  · rw [hm]
    refine xSc_and false (fun h => (by cases h)) ?_
    refine xSc_and false (fun h => (by cases h)) ?_
    exact xSc_and false (fun h => (by cases h)) ⟨⟨false, rfl, fun h => (by cases h)⟩, rfl⟩

end Go.Md

/-
  What is known to lead nowhere, in memory.
-/
set_option linter.unusedSimpArgs false
set_option linter.unusedVariables false
namespace Go.Ck
open Go Go.Sx Go.Md Go.Proofs Go.Proofs.Ytnnedfhpicdacaa

def ptL (X : ML) : List Value := [mp X]
theorem ptL_len (X : ML) : (ptL X).length = 1 := rfl
/-- A model that leads nowhere behind some calls. -/
def DeadM (l : List Cl) (h : PH) (T : List Nat) (d : Nat) (X : ML) : Prop := ∃ s, MRep h X s ∧ s.Flat ∧ srch l (leftN l d) d s = none ∧ ∀ y ∈ X.all, y ∉ T
def DeadE (l : List Cl) (h : PH) (T : List Nat) (M : Nat) (e : MapEntry) (b : Nat) : Prop :=
  ∃ (d : Nat) (xs : List ML) (p : Option Addr) (n c : Nat), e.key = .int .u64 (d : Int) ∧ e.val = .slice p n c ∧ RowIn ptL 1 23 h p n c xs [b] ∧ xs.length ≤ M ∧ ∀ X ∈ xs, DeadM l h T d X
structure DeadAt (l : List Cl) (h : PH) (db : Nat) (T : List Nat) (M : Nat) : Prop where
  ex : ∃ (es : Array MapEntry) (cl : Nat) (bs : List Nat), h db = some (.map es cl) ∧ T = db :: bs ∧ T.Nodup ∧ bs.length = es.size ∧ ∀ (i : Nat) e b, es.toList[i]? = some e → bs[i]? = some b → DeadE l h T M e b

theorem DeadM.le {l : List Cl} {h h' : PH} {T : List Nat} {d : Nat} {X : ML} (x : DeadM l h T d X) (le : h.le h') : DeadM l h' T d X := by
  obtain ⟨s, r, k, n, t⟩ := x; exact ⟨s, r.le le, k, n, t⟩
theorem DeadE.le {l : List Cl} {h h' : PH} {T : List Nat} {M : Nat} {e : MapEntry} {b : Nat} (x : DeadE l h T M e b) (le : h.le h') : DeadE l h' T M e b := by
  obtain ⟨d, xs, p, n, c, k, v, r, m, t⟩ := x
  exact ⟨d, xs, p, n, c, k, v, r.le le, m, fun X hX => (t X hX).le le⟩
theorem DeadAt.le {l : List Cl} {h h' : PH} {db : Nat} {T : List Nat} {M : Nat} (x : DeadAt l h db T M) (le : h.le h') : DeadAt l h' db T M := by
  obtain ⟨es, cl, bs, e, ht, nd, hl, ha⟩ := x.ex
  exact ⟨es, cl, bs, le _ _ e, ht, nd, hl, fun i a b h1 h2 => (ha i a b h1 h2).le le⟩
theorem DeadAt.more {l : List Cl} {h : PH} {db : Nat} {T : List Nat} {M M' : Nat} (x : DeadAt l h db T M) (le : M ≤ M') : DeadAt l h db T M' := by
  obtain ⟨es, cl, bs, e, ht, nd, hl, ha⟩ := x.ex
  refine ⟨es, cl, bs, e, ht, nd, hl, fun i a b h1 h2 => ?_⟩
  obtain ⟨d, xs, p, n, c, k, v, r, m, t⟩ := ha i a b h1 h2
  exact ⟨d, xs, p, n, c, k, v, r, by omega, t⟩
theorem DeadAt.known {l : List Cl} {h : PH} {db : Nat} {T : List Nat} {M : Nat} (x : DeadAt l h db T M) : ∀ b ∈ T, ∃ O, h b = some O := by
  obtain ⟨es, cl, bs, e, rfl, nd, hl, ha⟩ := x.ex
  intro b hb
  rcases List.mem_cons.1 hb with rfl | hb
  · exact ⟨_, e⟩
  · obtain ⟨i, hi, rfl⟩ := List.getElem_of_mem hb
    have hi2 : i < es.toList.length := by simpa [hl] using hi
    obtain ⟨d, xs, p, n, c, k, v, r, m, t⟩ := ha i es.toList[i] bs[i] (List.getElem?_eq_getElem hi2) (List.getElem?_eq_getElem hi)
    exact r.known _ (by simp)

theorem findE_spec {k : Int} {kd : IntKind} : ∀ {es : List MapEntry} {i j : Nat} {v : Value}, (∀ e ∈ es, isKeyI kd e.key) → findE es (.int kd k) i = some (j, v) → i ≤ j ∧ ∃ e, es[j - i]? = some e ∧ e.key = .int kd k ∧ e.val = v := by
  intro es
  induction es with
  | nil => intro i j v _ h; cases h
  | cons e es ih =>
    intro i j v hk h
    unfold findE at h
    obtain ⟨a, ha⟩ := hk e (List.mem_cons_self ..)
    rw [ha, sameBits_int] at h
    split at h
    · rename_i hs
      simp only [Option.some.injEq, Prod.mk.injEq] at h
      obtain ⟨rfl, rfl⟩ := h
      have : k = a := by simpa using hs
      exact ⟨Nat.le_refl _, e, by simp, by rw [ha, this], rfl⟩
    · obtain ⟨h1, e', h2, h3⟩ := ih (fun e he => hk e (List.mem_cons_of_mem _ he)) h
      refine ⟨by omega, e', ?_, h3⟩
      rw [show j - i = (j - (i + 1)) + 1 from by omega]; simpa using h2

theorem DeadAt.keys {l : List Cl} {h : PH} {T : List Nat} {M : Nat} {es : Array MapEntry} {bs : List Nat} (hl : bs.length = es.size) (ha : ∀ (i : Nat) e b, es.toList[i]? = some e → bs[i]? = some b → DeadE l h T M e b) : ∀ e ∈ es.toList, isKeyI .u64 (MapEntry.key e) := by
  intro e he
  obtain ⟨i, hi, rfl⟩ := List.getElem_of_mem he
  have hi2 : i < bs.length := by simpa [hl] using hi
  obtain ⟨d, xs, p, n, c, k, v, r, m, t⟩ := ha i _ bs[i] (List.getElem?_eq_getElem hi) (List.getElem?_eq_getElem hi2)
  exact ⟨_, k⟩
theorem law_uint : KeyLaw Try.prog 167 (isKeyI .u64) := keyLawInt Try.underlying167

/-- What is found of some calls. -/
theorem DeadAt.look {l : List Cl} {h : PH} {db : Nat} {T : List Nat} {M : Nat} (x : DeadAt l h db T M) (d : Nat) {K : Option Value → Prop}
    (k0 : K none) (k1 : ∀ (xs : List ML) p n c b, RowIn ptL 1 23 h p n c xs [b] → xs.length ≤ M → (∀ X ∈ xs, DeadM l h T d X) → K (some (.slice p n c))) : xLook Try.prog 167 h (some db) (.int .u64 (d : Int)) K := by
  obtain ⟨es, cl, bs, e, rfl, nd, hl, ha⟩ := x.ex
  have hk := DeadAt.keys hl ha
  refine .inl ⟨db, es, cl, _, rfl, e, law_uint, ⟨_, rfl⟩, hk, ?_⟩
  unfold mapGet
  cases hf : findE es.toList (.int .u64 (d : Int)) 0 with
  | none => exact k0
  | some r =>
    obtain ⟨j, v⟩ := r
    obtain ⟨_, en, h1, h2, h3⟩ := findE_spec hk hf
    simp only [Nat.sub_zero] at h1
    have hj : j < bs.length := by
      have := (List.getElem?_eq_some_iff.1 h1).1
      simpa [hl] using this
    obtain ⟨d', xs, p, n, c, hkk, hv, r, m, t⟩ := ha j en bs[j] h1 (List.getElem?_eq_getElem hj)
    rw [hkk] at h2
    have : d' = d := by
      simp only [Value.int.injEq, true_and] at h2
      exact_mod_cast h2
    subst this
    simp only [Option.map_some]
    rw [← h3, hv]
    exact k1 xs p n c _ r m t

theorem meets_isDead {l : List Cl} {h : PH} {sp db : Nat} {T : List Nat} {M : Nat} {v0 v1 : Value} (es : h sp = some (.cells #[v0, v1, .map (some db)] 165 (0, 0))) (x : DeadAt l h db T M) (hM : M ≤ 1000000000000) {L : ML} {s : Ms} (r : MRep h L s) (k : s.Flat) (d : Nat) :
    Meets Try.prog 109 #[.pointer (some ⟨sp, 0, none⟩), .int .u64 (d : Int), mp L] h fun v h' => (∃ b, v = .bool b ∧ (b = true → srch l (leftN l d) d s = none)) ∧ h' = h := by
  apply P_check_search_isDead_of
  unfold P_check_search_isDead
  simp only [xNn_some, add_mk, cell_mk, upd_at, del_at, if_true, if_false, Option.bind_some, List.getElem?_toArray, List.getElem?_cons_succ, List.getElem?_cons_zero, oI_some, oS_some, oM_some, oB_some, oP_some, oT_some, xIdx_some, Nat.zero_add, Nat.add_zero, Nat.mul_one, es]
  refine x.look d ?_ ?_
  · simp only [Option.getD_none, oS_some]
    refine xLoop1 (fun (i : Int) h' => h' = h ∧ i = 0) (fun _ _ => 0) ?_ ⟨rfl, rfl⟩
    rintro J i _ ⟨rfl, rfl⟩ hJ
    exact ⟨fun hx => (by simp at hx), fun _ => ⟨⟨false, rfl, fun h => (by cases h)⟩, rfl⟩⟩
  · intro xs p n c b ri hm hd
    have hn := ri.1
    have rcs := ri.recs ptL_len
    simp only [Option.getD_some, oS_some]
    refine xLoop1 (fun (i : Int) h' => h' = h ∧ 0 ≤ i ∧ i ≤ n) (fun (i : Int) _ => ((n : Int) - i).toNat) ?_ ⟨rfl, by omega, by omega⟩
    rintro J i _ ⟨rfl, i0, i1⟩ hJ
    refine ⟨fun hx => ?_, fun _ => ⟨⟨false, rfl, fun h => (by cases h)⟩, rfl⟩⟩
    have hx := of_decide_eq_true hx
    have hw : IntKind.wrap .i64 (i + 1) = i + 1 := wrap64_id (by omega) (by omega)
    have hi : i.toNat < xs.length := by omega
    obtain ⟨b', hb, hc⟩ := rcs.at_ i.toNat xs[i.toNat] (List.getElem?_eq_getElem hi)
    have c0 := hc 0 _ rfl
    rw [add_zero'] at c0
    obtain ⟨s', r', k', dead, _⟩ := hd _ (List.getElem_mem hi)
    generalize xs[i.toNat] = X at c0 r'
    subst hb
    refine ⟨b', rfl, i0, hx, ?_⟩
    simp only [c0, mp, oP_some]
    refine (meets_Same_flat r' r k' k).mono ?_
    rintro _ _ ⟨⟨y, rfl, hy⟩, rfl⟩
    simp only [oB_some]
    refine ⟨fun h => ?_, fun h => ?_⟩
    · have := hy h
      subst this
      exact ⟨⟨true, rfl, fun _ => dead⟩, by trivial⟩
    · rw [hw]
      exact hJ _ _ ⟨rfl, by omega, by omega⟩ (by omega)

end Go.Ck

/-
  The search for an order.
-/
set_option linter.unusedSimpArgs false
set_option linter.unusedVariables false
namespace Go.Ck
open Go Go.Sx Go.Md Go.Proofs Go.Proofs.Ytnnedfhpicdacaa

def cost : Nat → Nat
  | 0 => 1
  | f + 1 => 1 + (f + 1) * cost f

theorem flat_next {s : Ms} (k : s.Flat) {c : Cl} (hm : c.may = true) : (s.next c.event).Flat := by
  have hk : c.event.kind = 1 ∨ c.event.kind = 2 ∨ c.event.kind = 3 ∨ c.event.kind = 9 ∨ c.event.kind = 11 ∨ c.event.kind = 12 ∨ c.event.kind = 8 ∨ c.event.kind = 10 := by
    unfold Cl.may at hm
    split at hm
    · cases hm
    split at hm
    · omega
    split at hm
    · omega
    split at hm
    · omega
    · cases hm
  generalize c.event = e at hk
  have key : ∀ s', s.apply e = some s' → s'.Flat := by
    intro s' h
    have up : ∀ {m : List Mo} {f : List Bool}, s' = { s with mons := m, flags := f } → s'.Flat := by
      intro m f e; subst e; exact ⟨k.w, k.l⟩
    have same : ∀ {x : Ms}, some x = some s' → x = s → s'.Flat := by
      intro x h1 h2; simp only [Option.some.injEq] at h1; subst h1; subst h2; exact k
    unfold Ms.apply at h
    split at h
    · split at h
      · unfold Ms.enter at h
        split at h
        · split at h
          · cases h
          · simp only [Option.some.injEq] at h; exact up (f := s.flags) h.symm
        split at h
        · split at h
          · exact same h rfl
          · cases h
        split at h
        · split at h
          · exact same h rfl
          · cases h
        split at h
        · split at h
          · exact same h rfl
          · cases h
        · cases h
      · cases h
    split at h
    · split at h
      · unfold Ms.exit at h
        split at h
        · split at h
          · cases h
          · exact same h rfl
        · split at h
          · cases h
          · simp only [Option.some.injEq] at h; exact up (f := s.flags) h.symm
      · cases h
    split at h
    · omega
    split at h
    · omega
    split at h
    · omega
    split at h
    · unfold Ms.tell at h
      split at h
      · omega
      split at h
      · split at h
        · exact same h rfl
        · cases h
      split at h
      · cases h
      split at h
      · split at h
        · exact same h rfl
        · cases h
      · split at h
        · exact same h rfl
        · cases h
    split at h
    · unfold Ms.hash at h
      split at h
      · split at h
        · exact same h rfl
        · cases h
      · split at h
        · cases h
        · simp only [Option.some.injEq] at h; exact up (f := s.flags) h.symm
    split at h
    · unfold Ms.holds at h
      split at h
      · exact same h rfl
      · cases h
    split at h
    · split at h
      · cases h
      · simp only [Option.some.injEq] at h; exact up (m := s.mons) h.symm
    · cases h
  unfold Ms.next Ms.step
  split
  · cases h : s.apply e with
    | none => exact k
    | some s' => exact key s' h
  · exact k

theorem app_ints {h : PH} {p : Option Addr} {m c : Nat} {l : List Int} {S : List Nat} {sb : Nat} {x : Int} {K : Option Addr → Nat → Nat → PH → Prop} (i : IntsIn h p m c l S) (hs : h sb = some (.cells #[.int .i64 x] 3 (0, 0))) (hl : l.length ≤ 1000000)
    (k : ∀ p' n' c' h' S', IntsIn h' p' n' c' (x :: l) S' → Ext [sb] h h' → (∀ b ∈ S', b = sb ∨ h b = none) → K p' n' c' h') : xApp h 3 1 8 (some ⟨sb, 0, none⟩) 1 1 (.slice p m c) K := by
  have src : srcCells h 1 (.slice p m c) (l.map (Value.int .i64)) m := by
    obtain ⟨rfl, ⟨rfl, rfl, rfl, rfl⟩ | ⟨b, junk, rfl, hb, hc, hj, rfl⟩⟩ := i
    · exact ⟨rfl, rfl, rfl⟩
    · refine ⟨rfl, by simp, fun j hj => ?_⟩
      have hj : j < l.length := by omega
      rw [add_mk, cellAt hb, Nat.zero_add, intArr_get hj]
      simp [hj]
  have hm : m = l.length := i.1
  refine ⟨_, m, src, by simp [oneCell], by omega, [.int .i64 x], [], rfl, hs, rfl, rfl, by decide, fun b cap' junk nb hc hj => ?_⟩
  refine k _ _ _ _ [b] ⟨by simp; omega, .inr ⟨b, junk, rfl, ?_, by simp; omega, by simp at hj ⊢; omega, rfl⟩⟩ ?_ ?_
  · rw [PH.upd_same]
    simp [intArr]
  · intro y O hy hm'
    have h1 : y ≠ sb := fun e => hm' (by simp [e])
    by_cases e : y = b
    · subst e
      rw [del_at, if_neg h1] at nb
      rw [nb] at hy; cases hy
    · rw [PH.upd_ne _ _ e, del_at, if_neg h1]; exact hy
  · intro y hy
    simp only [List.mem_singleton] at hy
    subst hy
    rw [del_at] at nb
    split at nb
    · rename_i e; exact .inl e
    · exact .inr nb

theorem findSome_range {β : Type} (f : Nat → Option β) (n i : Nat) (hi : i < n) (r : β) (h : f i = some r) (pre : ∀ k, k < i → f k = none) : (List.range n).findSome? f = some r := by
  obtain ⟨m, rfl⟩ : ∃ m, n = i + (m + 1) := ⟨n - i - 1, by omega⟩
  rw [List.range_add, List.findSome?_append]
  have : (List.range i).findSome? f = none := by
    rw [List.findSome?_eq_none_iff]
    intro k hk
    exact pre k (by simpa using hk)
  rw [this, Option.none_or, List.range_succ_eq_map, List.map_cons, List.findSome?_cons, Nat.add_zero, h]

/-- How many of the first calls are not done. -/
def cnt (done i : Nat) : Nat := ((List.range i).filter fun k => !done.testBit k).length
theorem cnt_succ (done i : Nat) : cnt done (i + 1) = cnt done i + (if done.testBit i = true then 0 else 1) := by
  unfold cnt
  rw [List.range_succ, List.filter_append, List.length_append]
  cases h : done.testBit i <;> simp [h]
theorem cnt_mono (done i : Nat) : cnt done i ≤ cnt done (i + 1) := by rw [cnt_succ]; omega

theorem dead_le {l : List Cl} {h h' : PH} {T T' : List Nat} {d : Nat} {X : ML} (x : DeadM l h T d X) (e : Ext T h h') (n : ∀ b ∈ T', b ∈ T ∨ h b = none) : DeadM l h' T' d X := by
  obtain ⟨s, r, k, hn, t⟩ := x
  refine ⟨s, r.ext e t, k, hn, fun y hy hm => ?_⟩
  rcases n y hm with h1 | h1
  · exact t y hy h1
  · obtain ⟨O, hO⟩ := r.known y hy
    rw [h1] at hO; cases hO
theorem deadE_le {l : List Cl} {h h' : PH} {T T' : List Nat} {M M' : Nat} {en : MapEntry} {b : Nat} (x : DeadE l h T M en b) (hM : M ≤ M') (e : Ext T h h') (n : ∀ b ∈ T', b ∈ T ∨ h b = none) (same : h' b = h b) : DeadE l h' T' M' en b := by
  obtain ⟨d, xs, p, m, c, k, v, r, hm, t⟩ := x
  exact ⟨d, xs, p, m, c, k, v, r.of (by simpa using same), by omega, fun X hX => dead_le (t X hX) e n⟩

theorem nodup_inj {α : Type} {l : List α} (h : l.Nodup) {i j : Nat} (hi : i < l.length) (hj : j < l.length) (e : l[i] = l[j]) : i = j := by
  have := List.pairwise_iff_getElem.1 h
  rcases Nat.lt_trichotomy i j with h1 | h1 | h1
  · exact absurd e (this i j hi hj h1)
  · exact h1
  · exact absurd e.symm (this j i hj hi h1)
theorem nodup_set {α : Type} {l : List α} (h : l.Nodup) (j : Nat) (b : α) (hb : ∀ i (hi : i < l.length), i ≠ j → b ≠ l[i]) : (l.set j b).Nodup := by
  refine List.pairwise_iff_getElem.2 fun a c ha hc hac => ?_
  simp only [List.length_set] at ha hc
  have base := List.pairwise_iff_getElem.1 h a c ha hc hac
  rw [List.getElem_set, List.getElem_set]
  split
  · rename_i e
    split
    · omega
    · exact hb c hc (by omega)
  · split
    · exact (hb a ha (by omega)).symm
    · exact base

/-- One more that leads nowhere. -/
theorem dead_tail {l : List Cl} {h : PH} {sp db : Nat} {T : List Nat} {M : Nat} {v0 v1 : Value} (es : h sp = some (.cells #[v0, v1, .map (some db)] 165 (0, 0))) (x : DeadAt l h db T M) (hM : M ≤ 1000000000000) (sT : sp ∉ T) {X : ML} {d : Nat} (dm : DeadM l h T d X) {K : PH → Prop}
    (k : ∀ h' T', DeadAt l h' db T' (M + 1) → Ext T h h' → (∀ b ∈ T', b ∈ T ∨ h b = none) → K h') :
    xDraw h fun hs => xNn (some ⟨sp, 0, none⟩) fun x77 => oM (hs.cell (x77.add 2)) fun x79 => xNn (some ⟨sp, 0, none⟩) fun x82 => oM (hs.cell (x82.add 2)) fun x84 => xLook Try.prog 167 hs x84 (.int .u64 (d : Int)) fun o => oS (some (Option.getD o (.slice none 0 0))) fun pa pl pc =>
      xNew h (.cells #[.pointer (some ⟨X.m, 0, none⟩)] 23 (0, 0)) fun b88 h19 => PH.le hs h19 ∧ xApp h19 23 1 8 pa pl pc (.slice (some ⟨b88, 0, none⟩) 1 1) fun qa ql qc h20 => PH.le hs h20 ∧ xPut Try.prog 167 h20 x79 (.int .u64 (d : Int)) (.slice qa ql qc) fun h21 => K h21 := by
  obtain ⟨es', cl, bs, e, rfl, nd, hl, ha⟩ := x.ex
  have hk := DeadAt.keys hl ha
  have sdb : sp ≠ db := fun h => sT (by simp [h])
  have sbs : sp ∉ bs := fun h => sT (List.mem_cons_of_mem _ h)
  have ndb : db ∉ bs := (List.nodup_cons.1 nd).1
  have ndbs := (List.nodup_cons.1 nd).2
  refine xDraw_cut bs ?_
  have c1 : (h.cut bs) sp = h sp := PH.cut_at sbs
  have c2 : (h.cut bs) db = h db := PH.cut_at ndb
  simp only [xNn_some, add_mk, cell_mk, upd_at, del_at, if_true, if_false, Option.bind_some, List.getElem?_toArray, List.getElem?_cons_succ, List.getElem?_cons_zero, oI_some, oS_some, oM_some, oB_some, oP_some, oT_some, xIdx_some, Nat.zero_add, Nat.add_zero, Nat.mul_one, c1, es]
  refine .inl ⟨db, es', cl, _, rfl, c2.trans e, law_uint, ⟨_, rfl⟩, hk, ?_⟩
  -- the end, whichever the entry
  have fin : ∀ (xs : List ML) (p : Option Addr) (n c : Nat) (S : List Nat), RowIn ptL 1 23 h p n c xs S → xs.length ≤ M → (∀ b ∈ S, b ∈ bs) → (∀ Y ∈ xs, DeadM l h (db :: bs) d Y) →
      (∀ (h20 : PH) (p' : Option Addr) (n' c' b' : Nat), RowIn ptL 1 23 h20 p' n' c' (xs ++ [X]) [b'] → Ext S h h20 → (b' ∈ S ∨ h b' = none) → K (h20.upd db (mapPut es' cl (.int .u64 (d : Int)) (.slice p' n' c')))) →
      xNew h (.cells #[.pointer (some ⟨X.m, 0, none⟩)] 23 (0, 0)) fun b88 h19 => PH.le (h.cut bs) h19 ∧ xApp h19 23 1 8 p n c (.slice (some ⟨b88, 0, none⟩) 1 1) fun qa ql qc h20 => PH.le (h.cut bs) h20 ∧ xPut Try.prog 167 h20 (some db) (.int .u64 (d : Int)) (.slice qa ql qc) fun h21 => K h21 := by
    intro xs p n c S ri hm hS hd hK
    refine xNew_intro fun b88 h19 l19 n88 e88 => ?_
    refine ⟨PH.le_trans (PH.cut_le _ _) l19, ?_⟩
    have ri19 := ri.le l19
    refine ri19.app (x := X) ptL_len (by simp [ptL, mp, oneCell]) e88 (by omega) ?_
    intro p' n' c' h20 S' r20 x20 n20
    have xx : Ext S h h20 := fun y O hy hm => x20 y O (l19 y O hy) hm
    have db20 : h20 db = some (.map es' cl) := xx _ _ e fun hm => ndb (hS _ hm)
    refine ⟨PH.cut_ext (xx.mono fun y hy => hS y hy), db, es', cl, _, rfl, db20, law_uint, ⟨_, rfl⟩, hk, ?_⟩
    obtain ⟨b', hb'⟩ : ∃ b', S' = [b'] := by
      obtain ⟨hn, ⟨h0, _⟩ | ⟨b', junk, _, _, _, _, hS'⟩⟩ := r20
      · simp at h0
      · exact ⟨b', hS'⟩
    subst hb'
    refine hK h20 p' n' c' b' r20 xx ?_
    rcases n20 b' (by simp) with h1 | h1
    · exact .inl h1
    · exact .inr (none_of l19 h1)
  have dm' := dm
  cases hf : findE es'.toList (.int .u64 (d : Int)) 0 with
  | none =>
    have hg : mapGet es' (.int .u64 (d : Int)) = none := by unfold mapGet; rw [hf]; rfl
    rw [hg]
    simp only [Option.getD_none, oS_some]
    refine fin [] none 0 0 [] (RowIn.nil _ _) (by simp) (by simp) (by simp) ?_
    intro h20 p' n' c' b' r20 x20 nb'
    have nb : h b' = none := by rcases nb' with h1 | h1; cases h1; exact h1
    have b'db : b' ≠ db := fun h1 => by subst h1; rw [nb] at e; cases e
    have b'bs : b' ∉ bs := fun hm => by obtain ⟨O, hO⟩ := x.known b' (List.mem_cons_of_mem _ hm); rw [nb] at hO; cases hO
    have hp : mapPut es' cl (.int .u64 (d : Int)) (.slice p' n' c') = .map (es'.push { key := .int .u64 (d : Int), val := .slice p' n' c', born := cl }) (cl + 1) := by unfold mapPut; rw [hf]
    rw [hp]
    have xT : Ext (db :: bs) h (h20.upd db (.map (es'.push { key := .int .u64 (d : Int), val := .slice p' n' c', born := cl }) (cl + 1))) := by
      intro y O hy hm
      rw [PH.upd_ne _ _ (fun h1 => hm (by simp [h1]))]
      exact x20 y O hy (by simp)
    have nT : ∀ b ∈ db :: (bs ++ [b']), b ∈ db :: bs ∨ h b = none := by
      intro b hb
      simp only [List.mem_cons, List.mem_append, List.not_mem_nil, or_false] at hb ⊢
      rcases hb with h1 | h1 | h1
      · exact .inl (.inl h1)
      · exact .inl (.inr h1)
      · subst h1; exact .inr nb
    refine k _ (db :: (bs ++ [b'])) ⟨_, _, bs ++ [b'], PH.upd_same _ _ _, rfl, ?_, by simp [hl], ?_⟩ xT nT
    · rw [List.nodup_cons, List.nodup_append]
      exact ⟨by simp [ndb, Ne.symm b'db], ndbs, by simp, fun a ha b hb => by simp at hb; subst hb; exact fun h1 => b'bs (h1 ▸ ha)⟩
    · intro i en b hi hb
      rw [Array.toList_push] at hi
      by_cases hlt : i < bs.length
      · rw [List.getElem?_append_left (by simpa [hl] using hlt)] at hi
        rw [List.getElem?_append_left hlt] at hb
        have hbm : b ∈ bs := List.mem_of_getElem? hb
        obtain ⟨O, hO⟩ := x.known b (List.mem_cons_of_mem _ hbm)
        refine deadE_le (ha i en b hi hb) (by omega) xT nT ?_
        rw [PH.upd_ne _ _ (fun h1 => ndb (by rw [← h1]; exact hbm)), x20 b O hO (by simp), hO]
      · have hlen := (List.getElem?_eq_some_iff.1 hb).1
        simp at hlen
        have hi' : i = bs.length := by omega
        subst hi'
        rw [List.getElem?_append_right (by simp [hl])] at hi
        rw [List.getElem?_append_right (Nat.le_refl _)] at hb
        simp [hl] at hi hb
        subst hi; subst hb
        refine ⟨d, [X], p', n', c', rfl, rfl, r20.of (by simpa using PH.upd_ne _ _ b'db), by simp, fun Y hY => ?_⟩
        simp only [List.mem_singleton] at hY
        subst hY
        exact dead_le dm xT nT
  | some r =>
    obtain ⟨j, v⟩ := r
    obtain ⟨_, en, h1, h2, h3⟩ := findE_spec hk hf
    simp only [Nat.sub_zero] at h1
    have hj : j < bs.length := by
      have := (List.getElem?_eq_some_iff.1 h1).1
      simpa [hl] using this
    obtain ⟨d', xs, p, n, c, hkk, hv, ri, hm, t⟩ := ha j en bs[j] h1 (List.getElem?_eq_getElem hj)
    rw [hkk] at h2
    have : d' = d := by
      simp only [Value.int.injEq, true_and] at h2
      exact_mod_cast h2
    subst this
    have hg : mapGet es' (.int .u64 (d' : Int)) = some (.slice p n c) := by unfold mapGet; rw [hf]; simp only [Option.map_some]; rw [← h3, hv]
    rw [hg]
    simp only [Option.getD_some, oS_some]
    refine fin xs p n c [bs[j]] ri hm (by simp) t ?_
    intro h20 p' n' c' b' r20 x20 nb'
    have hp : mapPut es' cl (.int .u64 (d' : Int)) (.slice p' n' c') = .map (es'.modify j fun e => { e with key := .int .u64 (d' : Int), val := .slice p' n' c' }) cl := by unfold mapPut; rw [hf]
    rw [hp]
    have b'db : b' ≠ db := by
      rcases nb' with h1 | h1
      · simp at h1; subst h1; exact fun h1 => ndb (h1 ▸ List.getElem_mem hj)
      · intro h2; subst h2; rw [h1] at e; cases e
    have b'bs : ∀ i (hi : i < bs.length), i ≠ j → b' ≠ bs[i] := by
      intro i hi hij
      rcases nb' with h1 | h1
      · simp at h1; subst h1
        intro h2
        exact hij (nodup_inj ndbs _ _ h2).symm
      · intro h2
        obtain ⟨O, hO⟩ := x.known bs[i] (List.mem_cons_of_mem _ (List.getElem_mem hi))
        rw [← h2, h1] at hO; cases hO
    have xT : Ext (db :: bs) h (h20.upd db (.map (es'.modify j fun e => { e with key := .int .u64 (d' : Int), val := .slice p' n' c' }) cl)) := by
      intro y O hy hm
      rw [PH.upd_ne _ _ (fun h1 => hm (by simp [h1]))]
      exact x20 y O hy (fun h1 => hm (by simp at h1; subst h1; exact List.mem_cons_of_mem _ (List.getElem_mem hj)))
    have nT : ∀ b ∈ db :: bs.set j b', b ∈ db :: bs ∨ h b = none := by
      intro b hb
      rcases List.mem_cons.1 hb with h1 | h1
      · exact .inl (by simp [h1])
      · rcases List.mem_or_eq_of_mem_set h1 with h1 | h1
        · exact .inl (List.mem_cons_of_mem _ h1)
        · subst h1
          rcases nb' with h1 | h1
          · simp at h1; subst h1; exact .inl (List.mem_cons_of_mem _ (List.getElem_mem hj))
          · exact .inr h1
    refine k _ (db :: bs.set j b') ⟨_, _, bs.set j b', PH.upd_same _ _ _, rfl, ?_, by simp [hl], ?_⟩ xT nT
    · rw [List.nodup_cons]
      refine ⟨fun hm => ?_, ?_⟩
      · rcases List.mem_or_eq_of_mem_set hm with h1 | h1
        · exact ndb h1
        · exact b'db h1.symm
      · exact nodup_set ndbs j b' b'bs
    · intro i en' b hi hb
      rw [Array.toList_modify, List.getElem?_modify] at hi
      rw [List.getElem?_set] at hb
      by_cases e1 : j = i
      · subst e1
        simp only [if_true, hj, Option.some.injEq] at hb
        subst hb
        simp only [if_true, h1, Option.map_eq_map, Option.map_some, Option.some.injEq] at hi
        subst hi
        refine ⟨d', xs ++ [X], p', n', c', rfl, rfl, r20.of (by simpa using PH.upd_ne _ _ b'db), by simp; omega, fun Y hY => ?_⟩
        rcases List.mem_append.1 hY with hY | hY
        · exact dead_le (t Y hY) xT nT
        · simp only [List.mem_singleton] at hY
          subst hY
          exact dead_le dm xT nT
      · simp only [e1, if_false] at hb hi
        have hi' : es'.toList[i]? = some en' := by simpa using hi
        have hbl := (List.getElem?_eq_some_iff.1 hb).1
        have hbe := (List.getElem?_eq_some_iff.1 hb).2
        have hbm : b ∈ bs := List.mem_of_getElem? hb
        obtain ⟨O, hO⟩ := x.known b (List.mem_cons_of_mem _ hbm)
        refine deadE_le (ha i en' b hi' hb) (by omega) xT nT ?_
        rw [PH.upd_ne _ _ (fun h1 => ndb (by rw [← h1]; exact hbm)), hO]
        refine x20 b O hO (fun h1 => ?_)
        simp only [List.mem_singleton] at h1
        rw [← hbe] at h1
        exact e1 (nodup_inj ndbs _ _ h1).symm

end Go.Ck

/-
  The search, whole; what is asked of calls.
-/
set_option linter.unusedSimpArgs false
set_option linter.unusedVariables false
namespace Go.Ck
open Go Go.Sx Go.Md Go.Proofs Go.Proofs.Ytnnedfhpicdacaa

/-- What the search tells. -/
def Told (g h' : PH) (v : Value) : Option (List Nat) → Prop
  | none => v = .tuple #[.slice none 0 0, .bool false]
  | some ks => ∃ p m c S, v = .tuple #[.slice p m c, .bool true] ∧ IntsIn h' p m c (ks.map fun (k : Nat) => (k : Int)) S ∧ ∀ b ∈ S, g b = none
/-- One candidate. -/
def cand (l : List Cl) (f done : Nat) (s : Ms) (k : Nat) : Option (List Nat) := if (freeK l done k && s.code (cl l k).event == 0) = true then (srch l f (done ||| 2 ^ k) (s.next (cl l k).event)).map (k :: ·) else none
theorem srch_succ (l : List Cl) (f done : Nat) (s : Ms) : srch l (f + 1) done s = (List.range l.length).findSome? (cand l f done s) := rfl

theorem valid_len {l : List Cl} : ∀ (f d : Nat) (s : Ms) (ks : List Nat), srch l f d s = some ks → ks.length ≤ f := by
  intro f
  induction f with
  | zero => intro d s ks h; simp only [srch, Option.some.injEq] at h; subst h; simp
  | succ f ih =>
    intro d s ks h
    unfold srch at h
    obtain ⟨k, hk, hh⟩ := List.exists_of_findSome?_eq_some h
    split at hh
    · cases hr : srch l f (d ||| 2 ^ k) (s.next (cl l k).event) with
      | none => rw [hr] at hh; cases hh
      | some r =>
        rw [hr] at hh
        simp only [Option.map_some, Option.some.injEq] at hh
        subst hh
        have := ih _ _ _ hr
        simp; omega
    · cases hh

set_option maxHeartbeats 4000000 in
theorem meets_rest {l : List Cl} (n60 : l.length ≤ 60) (may : ∀ c ∈ l, c.may = true) {g : PH} {sp db : Nat} {ca oa : Option Addr} {cc oc : Nat} (gs : g sp = some (.cells #[.slice ca l.length cc, .slice oa l.length oc, .map (some db)] 165 (0, 0))) (xc : ClsAt g ca l) (xo : RecsAt uL 1 g oa ((List.range l.length).map (ovr l))) :
    ∀ (f : Nat) (h : PH) (T : List Nat) (M : Nat) (L : ML) (s : Ms) (done : Nat), g.le h → (∀ b ∈ T, g b = none) → DeadAt l h db T M → M + cost f ≤ 100000000000 → MRep h L s → s.Ok → s.Flat → (∀ y ∈ L.all, y ∉ T) → done < 2 ^ l.length → leftN l done = f →
      Meets Try.prog 89 #[.pointer (some ⟨sp, 0, none⟩), .int .u64 (done : Int), mp L] h fun v h' => Told g h' v (srch l f done s) ∧ ∃ T', DeadAt l h' db T' (M + cost f) ∧ Ext T h h' ∧ ∀ b ∈ T', b ∈ T ∨ h b = none := by
  have pow60 : 2 ^ l.length < 2 ^ 64 := Nat.pow_lt_pow_right (by decide) (by omega)
  intro f
  induction f with
  | zero =>
    intro h T M L s done gl gT dead hM r ks flat LT hd hf
    have hdone := full_of_left hd hf
    apply P_check_search_rest_of
    unfold P_check_search_rest
    have hs := gl _ _ gs
    simp only [xNn_some, add_mk, cell_mk, upd_at, del_at, if_true, if_false, Option.bind_some, List.getElem?_toArray, List.getElem?_cons_succ, List.getElem?_cons_zero, oI_some, oS_some, oM_some, oB_some, oP_some, oT_some, xIdx_some, Nat.zero_add, Nat.add_zero, Nat.mul_one, hs]
    refine ⟨by omega, ?_⟩
    have hsh := shl_one l.length (by omega)
    have hsub : (((2 ^ l.length : Nat) : Int) - 1) = ((2 ^ l.length - 1 : Nat) : Int) := by
      have : 1 ≤ 2 ^ l.length := Nat.one_le_two_pow
      omega
    have hwr := wrapU (2 ^ l.length - 1) (by omega)
    simp only [hsh, hsub, hwr]
    refine ⟨fun _ => ?_, fun hx => (by rw [← hdone] at hx; simp at hx)⟩
    refine ⟨⟨none, 0, 0, [], rfl, IntsIn.nil _, by simp⟩, T, dead.more (by omega), Ext.refl _ _, fun b hb => .inl hb⟩
  | succ f ih =>
    intro h T M L s done gl gT dead hM r ks flat LT hd hf
    have hne : done ≠ 2 ^ l.length - 1 := fun h => by subst h; rw [left_full] at hf; cases hf
    have hM1 : M + 1 + (f + 1) * cost f ≤ 100000000000 := by simp only [cost] at hM; omega
    have d64 : done < 2 ^ 64 := by omega
    apply P_check_search_rest_of
    unfold P_check_search_rest
    have hs := gl _ _ gs
    have sT : sp ∉ T := fun hm => by rw [gT sp hm] at gs; cases gs
    simp only [xNn_some, add_mk, cell_mk, upd_at, del_at, if_true, if_false, Option.bind_some, List.getElem?_toArray, List.getElem?_cons_succ, List.getElem?_cons_zero, oI_some, oS_some, oM_some, oB_some, oP_some, oT_some, xIdx_some, Nat.zero_add, Nat.add_zero, Nat.mul_one, hs]
    refine ⟨by omega, ?_⟩
    have hsh := shl_one l.length (by omega)
    have hsub : (((2 ^ l.length : Nat) : Int) - 1) = ((2 ^ l.length - 1 : Nat) : Int) := by
      have : 1 ≤ 2 ^ l.length := Nat.one_le_two_pow
      omega
    have hwr := wrapU (2 ^ l.length - 1) (by omega)
    simp only [hsh, hsub, hwr]
    refine ⟨fun hx => ?_, fun _ => ?_⟩
    · exfalso
      have : done = 2 ^ l.length - 1 := by
        have := beq_iff_eq.1 hx
        exact_mod_cast this
      exact hne this
    refine (meets_isDead hs dead (by omega) r flat done).mono ?_
    rintro _ _ ⟨⟨b, rfl, hb⟩, rfl⟩
    rename_i h
    simp only [oB_some]
    refine ⟨fun hx => ?_, fun _ => ?_⟩
    · have := hb hx
      rw [hf] at this
      rw [this]
      exact ⟨rfl, T, dead.more (by omega), Ext.refl _ _, fun b hb => .inl hb⟩
    clear hb
    simp only [xNn_some, add_mk, cell_mk, upd_at, del_at, if_true, if_false, Option.bind_some, List.getElem?_toArray, List.getElem?_cons_succ, List.getElem?_cons_zero, oI_some, oS_some, oM_some, oB_some, oP_some, oT_some, xIdx_some, Nat.zero_add, Nat.add_zero, Nat.mul_one, hs]
    -- what is known between rounds
    let I : Nat → PH → Prop := fun i h' => ∃ T' M', DeadAt l h' db T' M' ∧ M' ≤ M + cnt done i * cost f ∧ Ext T h h' ∧ (∀ b ∈ T', b ∈ T ∨ h b = none) ∧ ∀ k, k < i → cand l f done s k = none
    refine xBlk_split (I l.length) ?_ fun K hK => ?_
    · rintro h1 ⟨T1, M1, dead1, hM1', x1, n1, no⟩
      have hc : cnt done l.length = f + 1 := hf
      rw [hc] at hM1'
      have gl1 : g.le h1 := fun y O hy => x1 y O (gl y O hy) fun hm => by rw [gT y hm] at hy; cases hy
      have gT1 : ∀ b ∈ T1, g b = none := fun b hb => by rcases n1 b hb with h' | h'; exact gT b h'; exact none_of gl h'
      have sT1 : sp ∉ T1 := fun hm => by rw [gT1 sp hm] at gs; cases gs
      have LT1 : ∀ y ∈ L.all, y ∉ T1 := fun y hy hm => by
        rcases n1 y hm with h' | h'
        · exact LT y hy h'
        · obtain ⟨O, hO⟩ := r.known y hy; rw [h'] at hO; cases hO
      have none_ : srch l (f + 1) done s = none := by
        rw [srch_succ, List.findSome?_eq_none_iff]
        intro k hk
        exact no k (by simpa using hk)
      have dm : DeadM l h1 T1 done L := ⟨s, r.ext x1 LT, flat, by rw [hf]; exact none_, LT1⟩
      have hMM : M1 ≤ 1000000000000 := by omega
      have tail := fun (K : PH → Prop) k => dead_tail (K := K) (gl1 _ _ gs) dead1 hMM sT1 dm k
      simp only [xNn_some, add_mk, cell_mk, upd_at, del_at, if_true, if_false, Option.bind_some, List.getElem?_toArray, List.getElem?_cons_succ, List.getElem?_cons_zero, oI_some, oS_some, oM_some, oB_some, oP_some, oT_some, xIdx_some, Nat.zero_add, Nat.add_zero, Nat.mul_one] at tail
      refine tail _ ?_
      intro h2 T2 dead2 x2 n2
      rw [none_]
      refine ⟨rfl, T2, dead2.more (by simp only [cost]; omega), ?_, ?_⟩
      · intro y O hy hm
        refine x2 y O (x1 y O hy hm) fun hm1 => ?_
        rcases n1 y hm1 with h' | h'
        · exact hm h'
        · rw [hy] at h'; cases h'
      · intro b hb
        rcases n2 b hb with h' | h'
        · exact n1 b h'
        · by_cases hm : b ∈ T
          · exact .inl hm
          · right
            cases hh : h b with
            | none => rfl
            | some O => rw [x1 b O hh hm] at h'; cases h'
    refine xLoop1 (fun (i : Int) h' => 0 ≤ i ∧ i ≤ l.length ∧ I i.toNat h') (fun (i : Int) _ => ((l.length : Int) - i).toNat) ?_ ⟨by omega, by omega, T, M, dead, by omega, Ext.refl _ _, fun b hb => .inl hb, fun k hk => by simp at hk⟩
    rintro J i h1 ⟨i0, i1, hI⟩ hJ
    refine ⟨fun hx => ?_, fun hx => ?_⟩
    rotate_left
    · have hx := of_decide_eq_false hx
      have : i.toNat = l.length := by omega
      rw [this] at hI
      exact hK _ hI
    have hx := of_decide_eq_true hx
    have hw : IntKind.wrap .i64 (i + 1) = i + 1 := wrap64_id (by omega) (by omega)
    have hi : i.toNat < l.length := by omega
    have hic : i = ((i.toNat : Nat) : Int) := by omega
    have step : ∀ h', I (i.toNat + 1) h' → J (i + 1) h' := fun h' k' => hJ _ _ ⟨by omega, by omega, by rw [show (i + 1).toNat = i.toNat + 1 from by omega]; exact k'⟩ (by omega)
    clear hJ hK
    generalize hk : i.toNat = k at hi hic hI step
    clear hk
    subst hic
    refine xBlk_split (I (k + 1)) (fun h' k' => by rw [hw]; exact step h' k') fun K hK => ?_
    clear step
    obtain ⟨T1, M1, dead1, hM1', x1, n1, no⟩ := hI
    have gl1 : g.le h1 := fun y O hy => x1 y O (gl y O hy) fun hm => by rw [gT y hm] at hy; cases hy
    have gT1 : ∀ b ∈ T1, g b = none := fun b hb => by rcases n1 b hb with h' | h'; exact gT b h'; exact none_of gl h'
    have sT1 : sp ∉ T1 := fun hm => by rw [gT1 sp hm] at gs; cases gs
    have LT1 : ∀ y ∈ L.all, y ∉ T1 := fun y hy hm => by
      rcases n1 y hm with h' | h'
      · exact LT y hy h'
      · obtain ⟨O, hO⟩ := r.known y hy; rw [h'] at hO; cases hO
    have r1 := r.ext x1 LT
    obtain ⟨b, hb, c0, c1, c2, c3, c4, c5, c6⟩ := cls_at (xc.le gl1) (List.getElem?_eq_getElem hi)
    have hcl : cl l k = l[k] := by simp [cl, List.getD_eq_getElem?_getD, hi]
    rw [← hcl] at c0 c1 c2 c3 c4 c5 c6
    refine ⟨b, hb, i0, hx, ?_⟩
    simp only [Int.toNat_natCast, c0, c1, c2, c3, c4, c5, c6, oI_some]
    clear c0 c1 c2 c3 c4 c5 c6
    refine xBox rfl rfl rfl (by decide) (clL_one (cl l k)) fun b9 h2 l2 n9 e9 => ?_
    have e9' : h2 b9 = some (.cells (clL (cl l k)).toArray 61 (0, 0)) := e9
    clear e9
    have gl2 := PH.le_trans gl1 l2
    have r2 := r1.le l2
    have dead2 := dead1.le l2
    have k64 : k < 64 := by omega
    have k60 : k < 60 := by omega
    refine ⟨i0, ?_⟩
    simp only [shr_bit done k k64 d64]
    have hs2 := gl2 _ _ gs
    -- where the call is passed over
    have skip : cand l f done s k = none → ∀ h', (∃ T' M', DeadAt l h' db T' M' ∧ M' ≤ M + cnt done k * cost f ∧ Ext T h h' ∧ (∀ b ∈ T', b ∈ T ∨ h b = none)) → K h' := by
      rintro hc h' ⟨T', M', a1, a2, a3, a4⟩
      refine hK _ ⟨T', M', a1, Nat.le_trans a2 (Nat.add_le_add_left (Nat.mul_le_mul_right _ (cnt_mono done k)) _), a3, a4, fun k' hk' => ?_⟩
      by_cases e : k' = k
      · subst e; exact hc
      · exact no k' (by omega)
    have x2 : Ext T h h2 := x1.trans' (Ext.of_le l2)
    refine xSc_or (IntKind.wrap .u64 (BitVec.ofInt (IntKind.bits .u64) ((ovr l k : Nat) : Int) &&& ~~~(BitVec.ofInt (IntKind.bits .u64) (done : Int))).toNat != 0) (fun _ J hJ => ?_) ?_
    · simp only [xNn_some, add_mk, cell_mk, upd_at, del_at, if_true, if_false, Option.bind_some, List.getElem?_toArray, List.getElem?_cons_succ, List.getElem?_cons_zero, oI_some, oS_some, oM_some, oB_some, oP_some, oT_some, xIdx_some, Nat.zero_add, Nat.add_zero, Nat.mul_one, hs2]
      obtain ⟨b', hb', hcell⟩ := (xo.le gl2).at_ k (ovr l k) (by simp [hi])
      have c0 := hcell 0 _ rfl
      rw [add_zero'] at c0
      refine ⟨b', hb', i0, hx, ?_⟩
      simp only [Int.toNat_natCast, c0, oI_some]
      exact hJ
    rw [free_code l done k (by omega) d64 k64]
    refine ⟨fun hfr => ?_, fun hfr => ?_⟩
    · have hfr : freeK l done k = false := by simpa using hfr
      exact skip (by unfold cand; rw [hfr]; rfl) _ ⟨T1, M1, dead2, hM1', x2, n1⟩
    have hfr : freeK l done k = true := by simpa using hfr
    refine (meets_Clone r2).mono ?_
    rintro _ h3 ⟨C, rfl, r3, l3, n3⟩
    simp only [mp, oP_some]
    have e93 := l3 _ _ e9'
    simp only [xNn_some, add_mk, cell_mk, upd_at, del_at, if_true, if_false, Option.bind_some, List.getElem?_toArray, List.getElem?_cons_succ, List.getElem?_cons_zero, oI_some, oS_some, oM_some, oB_some, oP_some, oT_some, xIdx_some, Nat.zero_add, Nat.add_zero, Nat.mul_one, e93, clL]
    refine (meets_Apply r3 (cl l k).event ks.few).mono ?_
    rintro _ h4 ⟨rfl, r4, x4⟩
    simp only [oI_some]
    -- all but the clone is as it was
    have l24 : h2.le h4 := fun y O hy => x4 y O (l3 y O hy) fun hm => by rw [n3 y hm] at hy; cases hy
    have dead4 := dead2.le l24
    have gl4 := PH.le_trans gl2 l24
    have x14 : Ext T h h4 := x2.trans' (Ext.of_le l24)
    refine ⟨fun hc => ?_, fun hc => ?_⟩
    · have hc : s.code (cl l k).event ≠ 0 := by simpa using hc
      refine skip ?_ _ ⟨T1, M1, dead4, hM1', x14, n1⟩
      unfold cand
      rw [if_neg (by simp [hc])]
    have hc : s.code (cl l k).event = 0 := by simpa using hc
    refine ⟨i0, ?_⟩
    have e2 := shl_one k k64
    simp only [e2, or_bits _ _ d64 (Nat.pow_lt_pow_right (by decide) k64)]
    have lk := left_or hi (free_bit hfr)
    have CT : ∀ y ∈ C.all, y ∉ T1 := fun y hy hm => by
      obtain ⟨O, hO⟩ := dead2.known y hm
      rw [n3 y hy] at hO; cases hO
    have cb : done.testBit k = false := free_bit hfr
    have cs : cnt done (k + 1) = cnt done k + 1 := by rw [cnt_succ, cb]; rfl
    have cle : cnt done (k + 1) ≤ f + 1 := by
      have : ∀ q, k + 1 + q = l.length → cnt done (k + 1) ≤ cnt done l.length := by
        intro q
        have : ∀ q m, cnt done m ≤ cnt done (m + q) := by
          intro q
          induction q with
          | zero => intro m; exact Nat.le_refl _
          | succ q ihq => intro m; exact Nat.le_trans (ihq m) (cnt_mono _ _)
        intro hq
        rw [← hq]; exact this q (k + 1)
      have h2 := this (l.length - (k + 1)) (by omega)
      have h3 : cnt done l.length = f + 1 := hf
      omega
    have hb1 : M1 + cost f ≤ M + cnt done (k + 1) * cost f := by rw [cs, Nat.add_mul]; omega
    have hb2 : M + cnt done (k + 1) * cost f ≤ M + (f + 1) * cost f := Nat.add_le_add_left (Nat.mul_le_mul_right _ cle) _
    refine (ih h4 T1 M1 C (s.next (cl l k).event) (done ||| 2 ^ k) gl4 gT1 dead4 (by omega) r4 (next_ok ks _) (flat_next flat (may _ (by rw [hcl]; exact List.getElem_mem hi))) CT (or_lt hd hi) (by omega)).mono ?_
    rintro v h5 ⟨told, T5, dead5, x5, n5⟩
    have x15 : Ext T h h5 := fun y O hy hm => x5 y O (x14 y O hy hm) fun hm1 => by
      rcases n1 y hm1 with h' | h'
      · exact hm h'
      · rw [hy] at h'; cases h'
    have n15 : ∀ b ∈ T5, b ∈ T ∨ h b = none := fun b hb => by
      rcases n5 b hb with h' | h'
      · exact n1 b h'
      · by_cases hm : b ∈ T
        · exact .inl hm
        · right
          cases hh : h b with
          | none => rfl
          | some O => rw [x14 b O hh hm] at h'; cases h'
    cases hr : srch l f (done ||| 2 ^ k) (s.next (cl l k).event) with
    | none =>
      rw [hr] at told
      have told : v = .tuple #[.slice none 0 0, .bool false] := told
      subst told
      simp only [oTup_mk, oIx_some, oS_some, oB_some, List.getElem?_toArray, List.getElem?_cons_zero, List.getElem?_cons_succ]
      refine ⟨rfl, fun hx => (by cases hx), fun _ => ?_⟩
      refine hK _ ⟨T5, M1 + cost f, dead5, hb1, x15, n15, fun k' hk' => ?_⟩
      by_cases e : k' = k
      · subst e
        unfold cand
        rw [hr]; simp
      · exact no k' (by omega)
    | some ks' =>
      rw [hr] at told
      obtain ⟨p, m, c, S, rfl, ints, nS⟩ := told
      simp only [oTup_mk, oIx_some, oS_some, oB_some, List.getElem?_toArray, List.getElem?_cons_zero, List.getElem?_cons_succ]
      refine ⟨rfl, fun _ => ?_, fun hx => (by cases hx)⟩
      refine xNew_intro fun b72 h6 l6 n72 e72 => ?_
      have ints6 := ints.of (h' := h6) fun b hb => by
        have := ints.known b hb
        cases hh : h5 b with
        | none => exact absurd hh this
        | some O => exact l6 _ _ hh
      have hlen := valid_len f _ _ _ hr
      have hflen : f ≤ 60 := by
        have : leftN l done ≤ l.length := by
          unfold leftN
          exact Nat.le_trans (List.length_filter_le _ _) (by simp)
        omega
      refine app_ints ints6 e72 (by simp; omega) ?_
      intro p' m' c' h7 S' i7 x7 n7
      have found : srch l (f + 1) done s = some (k :: ks') := by
        rw [srch_succ]
        refine findSome_range _ _ k hi _ ?_ no
        unfold cand
        rw [if_pos (by simp [hfr, hc]), hr]; rfl
      rw [found]
      have h57 : h5.le h7 := fun y O hy => x7 y O (l6 y O hy) fun hm => by
        simp only [List.mem_singleton] at hm
        subst hm; rw [n72] at hy; cases hy
      have gl5 : g.le h5 := fun y O hy => x15 y O (gl y O hy) fun hm => by rw [gT y hm] at hy; cases hy
      refine ⟨⟨p', m', c', S', rfl, by simpa using i7, fun b hb => ?_⟩, T5, (dead5.le h57).more (by simp only [cost]; omega), x15.trans' (Ext.of_le h57), n15⟩
      rcases n7 b hb with h' | h'
      · subst h'; exact none_of gl5 n72
      · exact none_of gl5 (none_of l6 h')

end Go.Ck

/-
  What is asked of calls: ask, Can, Order.
-/
set_option linter.unusedSimpArgs false
set_option linter.unusedVariables false
namespace Go.Ck
open Go Go.Sx Go.Md Go.Proofs Go.Proofs.Ytnnedfhpicdacaa

theorem cost_le : ∀ f, f ≤ 12 → 0 + cost f ≤ 100000000000 := by decide
/-- Which error is told. -/
def askE (t o m : Int) (l : List Cl) : Int := if newOk t o m = false then 1 else if l.all Cl.may = false then 1 else if l.length > 12 then 5 else 0

theorem askE_cases (t o m : Int) (l : List Cl) : (newOk t o m = false ∧ askE t o m l = 1) ∨ (newOk t o m = true ∧ l.all Cl.may = false ∧ askE t o m l = 1) ∨ (newOk t o m = true ∧ l.all Cl.may = true ∧ l.length > 12 ∧ askE t o m l = 5) ∨ (newOk t o m = true ∧ l.all Cl.may = true ∧ l.length ≤ 12 ∧ askE t o m l = 0) := by
  unfold askE
  cases h1 : newOk t o m with
  | false => left; simp
  | true =>
    cases h2 : l.all Cl.may with
    | false => right; left; simp
    | true =>
      by_cases h3 : l.length > 12
      · right; right; left; simp [h3]
      · right; right; right
        have : ¬12 < l.length := by omega
        simp [this]; omega

theorem newOk_rng {t o m : Int} (h : newOk t o m = true) : t ≤ 8 ∧ o ≤ 8 := by
  have hr : (1 ≤ t ∧ t ≤ 8) ∧ (1 ≤ o ∧ o ≤ 8) ∧ (1 ≤ m ∧ m ≤ 60) := by simpa [newOk, inRange] using h
  exact ⟨hr.1.2, hr.2.1.2⟩

/-- An order that is told. -/
def Ordered (h h' : PH) (p : Option Addr) (n c : Nat) (ok : Bool) : Option (List Nat) → Prop
  | none => p = none ∧ n = 0 ∧ c = 0 ∧ ok = false
  | some ks => ok = true ∧ ∃ S, IntsIn h' p n c (ks.map fun (k : Nat) => (k : Int)) S ∧ ∀ b ∈ S, h b = none

set_option maxHeartbeats 1000000 in
theorem meets_ask {h : PH} {a : Option Addr} {n c : Nat} {l : List Cl} (x : ClsAt h a l) (hl : l.length = n) (hn : n ≤ 1000000) (t o m : Int) :
    Meets Try.prog 61 #[.int .i64 t, .int .i64 o, .int .i64 m, .slice a n c] h fun v h' => h.le h' ∧ ∃ p k c' ok, v = .tuple #[.slice p k c', .bool ok, .int .i64 (askE t o m l)] ∧
      Ordered h h' p k c' ok (if askE t o m l = 0 then srch l l.length 0 (Ms.new t o m) else none) := by
  apply P_check_ask_of
  unfold P_check_ask
  have bad : ∀ (h' : PH) (e : Int), h.le h' → e ≠ 0 → askE t o m l = e → h.le h' ∧ ∃ p k c' ok, (Value.tuple #[.slice none 0 0, .bool false, .int .i64 e]) = .tuple #[.slice p k c', .bool ok, .int .i64 (askE t o m l)] ∧
      Ordered h h' p k c' ok (if askE t o m l = 0 then srch l l.length 0 (Ms.new t o m) else none) := by
    intro h' e le hne he
    refine ⟨le, none, 0, 0, false, by rw [he], ?_⟩
    rw [if_neg (by rw [he]; exact hne)]
    exact ⟨rfl, rfl, rfl, rfl⟩
  rcases askE_cases t o m l with ⟨a1, ae⟩ | a1
  · refine (meets_New_no t o m a1).look ?_
    simp only [oTup_mk, oIx_some, oP_some, oI_some, List.getElem?_toArray, List.getElem?_cons_zero, List.getElem?_cons_succ]
    exact ⟨rfl, fun _ => bad _ 1 (PH.le_refl _) (by decide) ae, fun hx => (by cases hx)⟩
  have ok : newOk t o m = true := by rcases a1 with a1 | a1 | a1 <;> exact a1.1
  obtain ⟨ht, ho⟩ := newOk_rng ok
  refine (meets_New t o m ok).mono ?_
  rintro _ h1 ⟨w, rfl, f⟩
  obtain ⟨L, rfl, r, l1, nL⟩ := f
  have k0 := new_ok t o m ht ho
  have fl0 : (Ms.new t o m).Flat := ⟨rfl, rfl⟩
  have hs0 : (if askE t o m l = 0 then srch l l.length 0 (Ms.new t o m) else none) = if askE t o m l = 0 then srch l l.length 0 (Ms.new t o m) else none := rfl
  generalize Ms.new t o m = s0 at r k0 fl0 bad ⊢
  simp only [mp, oTup_mk, oIx_some, oP_some, oI_some, List.getElem?_toArray, List.getElem?_cons_zero, List.getElem?_cons_succ]
  refine ⟨rfl, fun hx => (by cases hx), fun _ => ?_⟩
  refine xBlk_split (fun h' => l.all Cl.may = true ∧ h1.le h') ?_ fun K hK => ?_
  rotate_left
  · refine xLoop1 (fun (i : Int) h' => 0 ≤ i ∧ i ≤ n ∧ (∀ k, (hk : k < i.toNat) → (cl l k).may = true) ∧ h1.le h') (fun (i : Int) _ => ((n : Int) - i).toNat) ?_ ⟨by omega, by omega, fun k hk => (by simp at hk), PH.le_refl _⟩
    rintro J i h2 ⟨i0, i1, pre, l2⟩ hJ
    refine ⟨fun hx => ?_, fun hx => ?_⟩
    · have hx := of_decide_eq_true hx
      have hw : IntKind.wrap .i64 (i + 1) = i + 1 := wrap64_id (by omega) (by omega)
      have hi : i.toNat < l.length := by omega
      have step : ∀ h', (cl l i.toNat).may = true → h1.le h' → J (i + 1) h' := fun h' hm l' => hJ _ _ ⟨by omega, by omega, fun k hk => by
        by_cases e : k = i.toNat
        · rw [e]; exact hm
        · exact pre k (by omega), l'⟩ (by omega)
      obtain ⟨b, rfl, c0, c1, c2, c3, c4, c5, c6⟩ := cls_at (x.le (PH.le_trans l1 l2)) (List.getElem?_eq_getElem hi)
      have hcl : cl l i.toNat = l[i.toNat] := by simp [cl, List.getD_eq_getElem?_getD, hi]
      rw [← hcl] at c0 c1 c2 c3 c4 c5 c6
      clear hJ hK
      refine xBlk_split (fun h' => (cl l i.toNat).may = true ∧ h1.le h') (fun h' ⟨hm, l'⟩ => by rw [hw]; exact step h' hm l') fun K hK => ?_
      clear step
      refine ⟨b, rfl, i0, hx, ?_⟩
      simp only [c0, c1, c2, c3, c4, c5, c6, oI_some]
      refine xBox rfl rfl rfl (by decide) (clL_one (cl l i.toNat)) fun b6 h3 l3 n6 e3 => ?_
      have e3' : h3 b6 = some (.cells (clL (cl l i.toNat)).toArray 61 (0, 0)) := e3
      simp only [xNn_some, add_mk, cell_mk, upd_at, del_at, if_true, if_false, Option.bind_some, List.getElem?_toArray, List.getElem?_cons_succ, List.getElem?_cons_zero, oI_some, oS_some, oM_some, oB_some, oP_some, oT_some, xIdx_some, Nat.zero_add, Nat.add_zero, Nat.mul_one, e3', clL]
      refine (meets_cMay (cl l i.toNat)).look ?_
      simp only [oB_some]
      have le3 := PH.le_trans l2 l3
      refine ⟨fun hb => ?_, fun hb => ?_⟩
      · have hb : (cl l i.toNat).may = false := by simpa using hb
        refine bad _ 1 (PH.le_trans l1 le3) (by decide) ?_
        have : l.all Cl.may = false := by
          rw [List.all_eq_false]
          exact ⟨l[i.toNat], List.getElem_mem hi, by rw [← hcl, hb]; simp⟩
        rcases a1 with a1 | a1 | a1
        · exact a1.2.2
        · rw [this] at a1; cases a1.2.1
        · rw [this] at a1; cases a1.2.1
      · exact hK _ ⟨by simpa using hb, le3⟩
    · have hx := of_decide_eq_false hx
      refine hK _ ⟨?_, l2⟩
      rw [List.all_eq_true]
      intro y hy
      obtain ⟨k, hk, rfl⟩ := List.getElem_of_mem hy
      have := pre k (by omega)
      have hcl : cl l k = l[k] := by simp [cl, List.getD_eq_getElem?_getD, hk]
      rw [hcl] at this; exact this
  rintro h2 ⟨hm, l2⟩
  have le2 := PH.le_trans l1 l2
  refine ⟨fun hx => ?_, fun hx => ?_⟩
  · have hx := of_decide_eq_true hx
    refine bad _ 5 le2 (by decide) ?_
    rcases a1 with a1 | a1 | a1
    · rw [hm] at a1; cases a1.2.1
    · exact a1.2.2.2
    · omega
  have hx := of_decide_eq_false hx
  have e0 : askE t o m l = 0 := by
    rcases a1 with a1 | a1 | a1
    · rw [hm] at a1; cases a1.2.1
    · omega
    · exact a1.2.2.2
  have n12 : l.length ≤ 12 := by omega
  subst hl
  refine (meets_ahead (x.le le2) rfl (by omega)).mono ?_
  rintro _ h3 ⟨p3, c3, S3, rfl, row, l3, n3⟩
  simp only [oS_some]
  refine xNew_intro fun b43 h4 l4 n43 e43 => ?_
  refine xNew_intro fun b45 h5 l5 n45 e45 => ?_
  have r5 := (((r.le l2).le l3).le l4).le l5
  have n435 : b43 ≠ b45 := ne_of_known e43 n45
  have e43' := l5 _ _ e43
  -- what is known but for the map
  have g5 : (h5.cut [b43]).le h5 := PH.cut_le _ _
  have le25 : h2.le h5 := PH.le_trans l3 (PH.le_trans l4 l5)
  have m43 : h3 b43 = none := n43
  have le3c : h3.le (h5.cut [b43]) := fun y O hy => by
    have : y ∉ [b43] := fun hm => by simp at hm; subst hm; rw [m43] at hy; cases hy
    rw [PH.cut_at this]; exact l5 _ _ (l4 _ _ hy)
  have gs : (h5.cut [b43]) b45 = some (.cells #[.slice a l.length c, .slice p3 l.length c3, .map (some b43)] 165 (0, 0)) := by
    rw [PH.cut_at (by simp [Ne.symm n435])]; exact e45
  have dead0 : DeadAt l h5 b43 [b43] 0 := ⟨#[], 0, [], e43', rfl, by simp, rfl, fun i e b hi _ => (by simp at hi)⟩
  have LT : ∀ y ∈ L.all, y ∉ [b43] := fun y hy hm => by
    simp at hm; subst hm
    obtain ⟨O, hO⟩ := (((r.le l2).le l3)).known _ hy
    rw [m43] at hO; cases hO
  have rest := meets_rest (l := l) (by omega) (fun c hc => by have := List.all_eq_true.1 hm; exact this c hc) gs (x.le (PH.le_trans le2 (PH.le_trans l3 le3c))) ((row.recs uL_len).le le3c) l.length h5 [b43] 0 L s0 0 g5 (fun b hb => by simp only [PH.cut, hb, if_true]) dead0 (cost_le _ n12) r5 k0 fl0 LT (by have := Nat.two_pow_pos l.length; omega) (left_start l)
  refine rest.mono ?_
  rintro v h6 ⟨told, T6, _, x6, _⟩
  rw [if_pos e0]
  have le6 : h.le h6 := fun y O hy => by
    have h3y := l3 _ _ (le2 _ _ hy)
    refine x6 y O (l5 _ _ (l4 _ _ h3y)) fun hm => ?_
    simp at hm; subst hm; rw [m43] at h3y; cases h3y
  have gnone : ∀ b, (h5.cut [b43]) b = none → h b = none := fun b hb => none_of (PH.le_trans le2 (PH.le_trans l3 le3c)) hb
  cases hr : srch l l.length 0 s0 with
  | none =>
    rw [hr] at told
    have told : v = .tuple #[.slice none 0 0, .bool false] := told
    subst told
    simp only [oTup_mk, oIx_some, oS_some, oB_some, List.getElem?_toArray, List.getElem?_cons_zero, List.getElem?_cons_succ]
    exact ⟨rfl, le6, none, 0, 0, false, by rw [e0], rfl, rfl, rfl, rfl⟩
  | some ks =>
    rw [hr] at told
    obtain ⟨p, q, c', S, rfl, ints, nS⟩ := told
    simp only [oTup_mk, oIx_some, oS_some, oB_some, List.getElem?_toArray, List.getElem?_cons_zero, List.getElem?_cons_succ]
    exact ⟨rfl, le6, p, q, c', true, by rw [e0], rfl, S, ints, fun b hb => gnone b (nS b hb)⟩

/-- What is told of some calls: an order, if there is one. -/
def askO (t o m : Int) (l : List Cl) : Option (List Nat) := if askE t o m l = 0 then srch l l.length 0 (Ms.new t o m) else none
theorem meets_Can {h : PH} {a : Option Addr} {n c : Nat} {l : List Cl} (x : ClsAt h a l) (hl : l.length = n) (hn : n ≤ 1000000) (t o m : Int) :
    Meets Try.prog 25 #[.int .i64 t, .int .i64 o, .int .i64 m, .slice a n c] h fun v h' => v = .tuple #[.bool (askO t o m l).isSome, .int .i64 (askE t o m l)] ∧ h' = h := by
  apply Meets.same
  apply P_check_Can_of
  unfold P_check_Can
  refine (meets_ask x hl hn t o m).mono ?_
  rintro _ h1 ⟨le, p, k, c', ok, rfl, ho⟩
  have : ok = (askO t o m l).isSome := by
    unfold askO
    cases hh : (if askE t o m l = 0 then srch l l.length 0 (Ms.new t o m) else none) with
    | none => rw [hh] at ho; exact ho.2.2.2
    | some ks => rw [hh] at ho; exact ho.1
  subst this
  simp only [oTup_mk, oIx_some, oS_some, oB_some, oI_some, List.getElem?_toArray, List.getElem?_cons_zero, List.getElem?_cons_succ]
  exact ⟨rfl, by trivial, le⟩
theorem meets_Order {h : PH} {a : Option Addr} {n c : Nat} {l : List Cl} (x : ClsAt h a l) (hl : l.length = n) (hn : n ≤ 1000000) (t o m : Int) :
    Meets Try.prog 27 #[.int .i64 t, .int .i64 o, .int .i64 m, .slice a n c] h fun v h' => h.le h' ∧ ∃ p k c' S, v = .tuple #[.slice p k c', .int .i64 (askE t o m l)] ∧ IntsIn h' p k c' (((askO t o m l).getD []).map fun (k : Nat) => (k : Int)) S ∧ ∀ b ∈ S, h b = none := by
  apply P_check_Order_of
  unfold P_check_Order
  refine (meets_ask x hl hn t o m).mono ?_
  rintro _ h1 ⟨le, p, k, c', ok, rfl, ho⟩
  simp only [oTup_mk, oIx_some, oS_some, oB_some, oI_some, List.getElem?_toArray, List.getElem?_cons_zero, List.getElem?_cons_succ]
  refine ⟨rfl, le, p, k, c', ?_⟩
  unfold askO
  cases hh : (if askE t o m l = 0 then srch l l.length 0 (Ms.new t o m) else none) with
  | none =>
    rw [hh] at ho
    obtain ⟨rfl, rfl, rfl, _⟩ := ho
    exact ⟨[], rfl, IntsIn.nil _, by simp⟩
  | some ks =>
    rw [hh] at ho
    obtain ⟨_, S, i, nS⟩ := ho
    exact ⟨S, rfl, i, nS⟩

end Go.Ck
