/- The readings of some functions, printed by a program of the session (wip/tools/sx.py): each by one equation that the kernel reckons. -/
import Derived.Test.YtnnedfhpicdacaaRows
import Derived.Test.YtnnedfhpicdacaaJG2
import Derived.Test.YtnnedfhpicdacaaJG4
import Derived.Test.YtnnedfhpicdacaaJG5

set_option linter.unusedVariables false
namespace Go.Proofs.Ytnnedfhpicdacaa
open Go Go.Sx Go.Proofs
/-- futtock/futtocklaw15.GhostRight -/
def A_law15_GhostRight : Ann := .seq (.leaf) (.seq (.leaf) (.seq (.leaf) (.seq (.seq (.leaf) (.block [(7, .slice)] (.loop [(7, .slice), (22, (.int .i64))] (.seq (.leaf) (.seq (.cond [] (.leaf) (.leaf)) (.seq (.block [(7, .slice)] (.seq (.leaf) (.leaf))) (.leaf))))))) (.seq (.leaf) (.seq (.leaf) (.seq (.seq (.leaf) (.cond [] (.seq (.leaf) (.leaf)) (.leaf))) (.seq (.leaf) (.seq (.draw [(0, .flt), (1, .flt), (2, .flt), (3, .flt), (4, .flt), (5, .flt), (6, .flt), (7, .flt), (8, .flt), (9, .eff), (10, .flt), (11, .flt), (12, .flt), (13, .flt), (14, .flt)]) (.seq (.leaf) (.leaf))))))))))
def P_law15_GhostRight (a0_0 : Int) (a0_1 : Int) (a0_2 : Int) (a1a : Option Addr) (a1l : Nat) (a1c : Nat) (a2 : Int) (h : PH) (Q : Value → PH → Prop) : Prop :=
 xNew h (.cells #[(.int .i64 a0_0), (.int .i64 a0_1), (.int .i64 a0_2)] 50 (0, 0)) fun b3 h_1 =>
 Meets Try.prog 34 #[(.slice a1a a1l a1c)] h_1 fun v19 h_2 =>
 oS (some v19) fun x19a x19l x19c =>
 xBlk (fun J_1 =>
 ∃ n, xLoopN (fun _ _ _ _ _ => False) (fun J_2 =>
 (fun (x7a : Option Addr) (x7l : Nat) (x7c : Nat) (x22 : Int) (h_3 : PH) =>
 xIte (decide ((x22 : Int) < ((x19l : Nat) : Int))) (fun J_3 =>
 J_3 h_3)
 (fun J_3 =>
 J_1 x7a x7l x7c h_3)
 (fun  (h_4 : PH) =>
 xBlk (fun J_4 =>
 xIdx x19a x19l x22 13 fun x24 =>
 oI .i64 (h_4.cell (x24.add 0)) fun x25_0 =>
 oI .i64 (h_4.cell (x24.add 1)) fun x25_1 =>
 oI .i64 (h_4.cell (x24.add 2)) fun x25_2 =>
 oI .i64 (h_4.cell (x24.add 3)) fun x25_3 =>
 oI .i64 (h_4.cell (x24.add 4)) fun x25_4 =>
 oI .i64 (h_4.cell (x24.add 5)) fun x25_5 =>
 oI .i64 (h_4.cell (x24.add 6)) fun x25_6 =>
 oI .i64 (h_4.cell (x24.add 7)) fun x25_7 =>
 oI .i64 (h_4.cell (x24.add 8)) fun x25_8 =>
 oI .i64 (h_4.cell (x24.add 9)) fun x25_9 =>
 oI .i64 (h_4.cell (x24.add 10)) fun x25_10 =>
 oI .i64 (h_4.cell (x24.add 11)) fun x25_11 =>
 oI .i64 (h_4.cell (x24.add 12)) fun x25_12 =>
 xNew h_4 (.cells #[(.int .i64 0), (.int .i64 0), (.int .i64 0), (.int .i64 0), (.int .i64 0), (.int .i64 0), (.int .i64 0), (.int .i64 0), (.int .i64 0), (.int .i64 0), (.int .i64 0), (.int .i64 0), (.int .i64 0)] 88 (0, 0)) fun b9 h_5 =>
 xSt 13 h_5 (⟨b9, 0, none⟩ : Addr) [(.int .i64 x25_0), (.int .i64 x25_1), (.int .i64 x25_2), (.int .i64 x25_3), (.int .i64 x25_4), (.int .i64 x25_5), (.int .i64 x25_6), (.int .i64 x25_7), (.int .i64 x25_8), (.int .i64 x25_9), (.int .i64 x25_10), (.int .i64 x25_11), (.int .i64 x25_12)] fun h_6 =>
 oI .i64 (h_6.cell ((⟨b9, 0, none⟩ : Addr).add 0)) fun x27_0 =>
 oI .i64 (h_6.cell ((⟨b9, 0, none⟩ : Addr).add 1)) fun x27_1 =>
 oI .i64 (h_6.cell ((⟨b9, 0, none⟩ : Addr).add 2)) fun x27_2 =>
 oI .i64 (h_6.cell ((⟨b9, 0, none⟩ : Addr).add 3)) fun x27_3 =>
 oI .i64 (h_6.cell ((⟨b9, 0, none⟩ : Addr).add 4)) fun x27_4 =>
 oI .i64 (h_6.cell ((⟨b9, 0, none⟩ : Addr).add 5)) fun x27_5 =>
 oI .i64 (h_6.cell ((⟨b9, 0, none⟩ : Addr).add 6)) fun x27_6 =>
 oI .i64 (h_6.cell ((⟨b9, 0, none⟩ : Addr).add 7)) fun x27_7 =>
 oI .i64 (h_6.cell ((⟨b9, 0, none⟩ : Addr).add 8)) fun x27_8 =>
 oI .i64 (h_6.cell ((⟨b9, 0, none⟩ : Addr).add 9)) fun x27_9 =>
 oI .i64 (h_6.cell ((⟨b9, 0, none⟩ : Addr).add 10)) fun x27_10 =>
 oI .i64 (h_6.cell ((⟨b9, 0, none⟩ : Addr).add 11)) fun x27_11 =>
 oI .i64 (h_6.cell ((⟨b9, 0, none⟩ : Addr).add 12)) fun x27_12 =>
 Meets Try.prog 35 #[(.agg #[(.int .i64 x27_0), (.int .i64 x27_1), (.int .i64 x27_2), (.int .i64 x27_3), (.int .i64 x27_4), (.int .i64 x27_5), (.int .i64 x27_6), (.int .i64 x27_7), (.int .i64 x27_8), (.int .i64 x27_9), (.int .i64 x27_10), (.int .i64 x27_11), (.int .i64 x27_12)])] h_6 fun v28 h_7 =>
 oAgg v28 13 fun x28cs =>
 oI .i64 x28cs[0]? fun x28_0 =>
 oI .i64 x28cs[1]? fun x28_1 =>
 oI .i64 x28cs[2]? fun x28_2 =>
 oI .i64 x28cs[3]? fun x28_3 =>
 oI .i64 x28cs[4]? fun x28_4 =>
 oI .i64 x28cs[5]? fun x28_5 =>
 oI .i64 x28cs[6]? fun x28_6 =>
 oI .i64 x28cs[7]? fun x28_7 =>
 oI .i64 x28cs[8]? fun x28_8 =>
 oI .i64 x28cs[9]? fun x28_9 =>
 oI .i64 x28cs[10]? fun x28_10 =>
 oI .i64 x28cs[11]? fun x28_11 =>
 oI .i64 x28cs[12]? fun x28_12 =>
 xNew h_7 (.cells #[(.int .i64 x28_0), (.int .i64 x28_1), (.int .i64 x28_2), (.int .i64 x28_3), (.int .i64 x28_4), (.int .i64 x28_5), (.int .i64 x28_6), (.int .i64 x28_7), (.int .i64 x28_8), (.int .i64 x28_9), (.int .i64 x28_10), (.int .i64 x28_11), (.int .i64 x28_12)] 90 (0, 0)) fun b29 h_8 =>
 xApp h_8 90 13 104 x7a x7l x7c (.slice (some (⟨b29, 0, none⟩ : Addr)) 1 1) fun x30a x30l x30c h_9 =>
 J_4 x30a x30l x30c h_9)
 (fun (x7a_1 : Option Addr) (x7l_1 : Nat) (x7c_1 : Nat) (h_10 : PH) =>
 J_2 x7a_1 x7l_1 x7c_1 (IntKind.wrap .i64 (x22 + 1)) h_10)))) n none 0 0 0 h_2)
 (fun (x7a_2 : Option Addr) (x7l_2 : Nat) (x7c_2 : Nat) (h_11 : PH) =>
 xIdxA (⟨b3, 0, none⟩ : Addr) 3 0 1 fun x33 =>
 oI .i64 (h_11.cell x33) fun x34 =>
 xIdxA (⟨b3, 0, none⟩ : Addr) 3 1 1 fun x35 =>
 oI .i64 (h_11.cell x35) fun x36 =>
 xIdxA (⟨b3, 0, none⟩ : Addr) 3 2 1 fun x37 =>
 oI .i64 (h_11.cell x37) fun x38 =>
 Meets Try.prog 36 #[(.int .i64 x34), (.int .i64 x36), (.int .i64 x38), (.slice x7a_2 x7l_2 x7c_2)] h_11 fun v40 h_12 =>
 oTup v40 2 fun x40cs =>
 oIx x40cs[0]? fun x40w =>
 oI .i64 (some x40w) fun x40_0 =>
 oIx x40cs[1]? fun x40w_1 =>
 oB (some x40w_1) fun x40_1 =>
 oI .i64 (some (.int .i64 x40_0)) fun x41 =>
 oB (some (.bool x40_1)) fun x42 =>
 xIdxA (⟨b3, 0, none⟩ : Addr) 3 0 1 fun x44 =>
 oI .i64 (h_12.cell x44) fun x45 =>
 xIdxA (⟨b3, 0, none⟩ : Addr) 3 1 1 fun x46 =>
 oI .i64 (h_12.cell x46) fun x47 =>
 xIdxA (⟨b3, 0, none⟩ : Addr) 3 2 1 fun x48 =>
 oI .i64 (h_12.cell x48) fun x49 =>
 Meets Try.prog 37 #[(.int .i64 x45), (.int .i64 x47), (.int .i64 x49), (.slice x19a x19l x19c)] h_12 fun v51 h_13 =>
 oTup v51 3 fun x51cs =>
 oIx x51cs[0]? fun x51w =>
 oI .i64 (some x51w) fun x51_0 =>
 oIx x51cs[1]? fun x51w_1 =>
 oAgg x51w_1 227 fun x51_1cs =>
 oIx x51cs[2]? fun x51w_2 =>
 oAgg x51w_2 48 fun x51_2cs =>
 oI .i64 (some (.int .i64 x51_0)) fun x52 =>
 oAgg (.agg x51_1cs) 227 fun x53cs =>
 oAgg (.agg x51_2cs) 48 fun x54cs =>
 xNew h_13 (.cells (zeroC Try.prog 77) 77 (0, 0)) fun b13 h_14 =>
 xNew h_14 (.cells (zeroC Try.prog 95) 95 (0, 0)) fun b14 h_15 =>
 xSt 227 h_15 (⟨b13, 0, none⟩ : Addr) (Array.toList x53cs) fun h_16 =>
 xSt 48 h_16 (⟨b14, 0, none⟩ : Addr) (Array.toList x54cs) fun h_17 =>
 xSc (x41 != x52) false (fun J_5 =>
 J_5 (!(x42 == (x52 == ((x19l : Nat) : Int)))) h_17)
 (fun r65 h_18 =>
 xSc r65 false (fun J_6 =>
 J_6 (decide ((x41 : Int) < 0)) h_18)
 (fun r69 h_19 =>
 xSc r69 false (fun J_7 =>
 J_7 (decide ((x41 : Int) > ((x7l_2 : Nat) : Int))) h_19)
 (fun r75 h_20 =>
 xIte r75 (fun J_8 =>
 Q (.bool false) h_20)
 (fun J_8 =>
 J_8 h_20)
 (fun  (h_21 : PH) =>
 xMod (IntKind.wrap .i64 a2) (IntKind.wrap .i64 (x41 + 1)) fun x80 =>
 xDraw h_21 fun hs_1 =>
 xIdxA (⟨b3, 0, none⟩ : Addr) 3 0 1 fun x82 =>
 oI .i64 (hs_1.cell x82) fun x83 =>
 xIdxA (⟨b3, 0, none⟩ : Addr) 3 1 1 fun x84 =>
 oI .i64 (hs_1.cell x84) fun x85 =>
 xIdxA (⟨b3, 0, none⟩ : Addr) 3 2 1 fun x86 =>
 oI .i64 (hs_1.cell x86) fun x87 =>
 xSlice x7a_2 x7l_2 x7c_2 13 none (some x80) fun x90a x90l x90c =>
 Meets Try.prog 36 #[(.int .i64 x83), (.int .i64 x85), (.int .i64 x87), (.slice x90a x90l x90c)] h_21 fun v91 h_22 =>
 oTup v91 2 fun x91cs =>
 oIx x91cs[0]? fun x91w =>
 oI .i64 (some x91w) fun x91_0 =>
 oIx x91cs[1]? fun x91w_1 =>
 oB (some x91w_1) fun x91_1 =>
 PH.le hs_1 h_22 ∧
 oI .i64 (some (.int .i64 x91_0)) fun x92 =>
 oB (some (.bool x91_1)) fun x93 =>
 xSc (x92 == x80) true (fun J_9 =>
 J_9 x93 h_22)
 (fun r99 h_23 =>
 xSc r99 true (fun J_10 =>
 Meets Try.prog 38 #[] h_23 fun v101 h_24 =>
 oB (some v101) fun x101 =>
 J_10 x101 h_24)
 (fun r102 h_25 =>
 Q (.bool r102) h_25) h_23) h_22)) h_19) h_18) h_17)
theorem P_law15_GhostRight_eq (a0_0 : Int) (a0_1 : Int) (a0_2 : Int) (a1a : Option Addr) (a1l : Nat) (a1c : Nat) (a2 : Int) (h : PH) (Q : Value → PH → Prop) : dFn Try.prog Try.f8 A_law15_GhostRight #[(.agg #[(.int .i64 a0_0), (.int .i64 a0_1), (.int .i64 a0_2)]), (.slice a1a a1l a1c), (.int .u8 a2)] h Q = P_law15_GhostRight a0_0 a0_1 a0_2 a1a a1l a1c a2 h Q := by kernel_rfl
theorem P_law15_GhostRight_of {a0_0 : Int} {a0_1 : Int} {a0_2 : Int} {a1a : Option Addr} {a1l : Nat} {a1c : Nat} {a2 : Int} {h : PH} {Q : Value → PH → Prop} (x : P_law15_GhostRight a0_0 a0_1 a0_2 a1a a1l a1c a2 h Q) : Meets Try.prog 8 #[(.agg #[(.int .i64 a0_0), (.int .i64 a0_1), (.int .i64 a0_2)]), (.slice a1a a1l a1c), (.int .u8 a2)] h Q :=
  spec_of Try.func8 mix (by kernel_rfl) ((P_law15_GhostRight_eq a0_0 a0_1 a0_2 a1a a1l a1c a2 h Q).symm ▸ x)
/-- futtock/ghost.Right -/
def A_ghost_Right : Ann := .seq (.leaf) (.seq (.leaf) (.seq (.seq (.leaf) (.cond [] (.seq (.leaf) (.leaf)) (.leaf))) (.seq (.seq (.leaf) (.block [] (.loop [(28, (.int .i64))] (.seq (.leaf) (.seq (.cond [] (.leaf) (.leaf)) (.seq (.block [] (.seq (.leaf) (.seq (.leaf) (.cond [] (.seq (.leaf) (.leaf)) (.leaf))))) (.leaf))))))) (.seq (.leaf) (.leaf)))))
def P_ghost_Right (a0 : Int) (a1 : Int) (a2 : Int) (a3a : Option Addr) (a3l : Nat) (a3c : Nat) (h : PH) (Q : Value → PH → Prop) : Prop :=
 Meets Try.prog 39 #[(.int .i64 a0), (.int .i64 a1), (.int .i64 a2)] h fun v18 h_1 =>
 oTup v18 2 fun x18cs =>
 oIx x18cs[0]? fun x18w =>
 oP (some x18w) fun x18_0 =>
 oIx x18cs[1]? fun x18w_1 =>
 oI .i64 (some x18w_1) fun x18_1 =>
 oP (some (.pointer x18_0)) fun x19 =>
 oI .i64 (some (.int .i64 x18_1)) fun x20 =>
 xIte (x20 != 0) (fun J_1 =>
 Q (.tuple #[(.int .i64 0), (.bool (((a3l : Nat) : Int) == 0))]) h_1)
 (fun J_1 =>
 J_1 h_1)
 (fun  (h_2 : PH) =>
 xBlk (fun J_2 =>
 ∃ n, xLoopN (fun _ _ => False) (fun J_3 =>
 (fun (x28 : Int) (h_3 : PH) =>
 xIte (decide ((x28 : Int) < ((a3l : Nat) : Int))) (fun J_4 =>
 J_4 h_3)
 (fun J_4 =>
 J_2 h_3)
 (fun  (h_4 : PH) =>
 xBlk (fun J_5 =>
 xIdx a3a a3l x28 13 fun x31 =>
 oI .i64 (h_4.cell (x31.add 0)) fun x32_0 =>
 oI .i64 (h_4.cell (x31.add 1)) fun x32_1 =>
 oI .i64 (h_4.cell (x31.add 2)) fun x32_2 =>
 oI .i64 (h_4.cell (x31.add 3)) fun x32_3 =>
 oI .i64 (h_4.cell (x31.add 4)) fun x32_4 =>
 oI .i64 (h_4.cell (x31.add 5)) fun x32_5 =>
 oI .i64 (h_4.cell (x31.add 6)) fun x32_6 =>
 oI .i64 (h_4.cell (x31.add 7)) fun x32_7 =>
 oI .i64 (h_4.cell (x31.add 8)) fun x32_8 =>
 oI .i64 (h_4.cell (x31.add 9)) fun x32_9 =>
 oI .i64 (h_4.cell (x31.add 10)) fun x32_10 =>
 oI .i64 (h_4.cell (x31.add 11)) fun x32_11 =>
 oI .i64 (h_4.cell (x31.add 12)) fun x32_12 =>
 xNew h_4 (.cells #[(.int .i64 0), (.int .i64 0), (.int .i64 0), (.int .i64 0), (.int .i64 0), (.int .i64 0), (.int .i64 0), (.int .i64 0), (.int .i64 0), (.int .i64 0), (.int .i64 0), (.int .i64 0), (.int .i64 0)] 90 (0, 0)) fun b13 h_5 =>
 xSt 13 h_5 (⟨b13, 0, none⟩ : Addr) [(.int .i64 x32_0), (.int .i64 x32_1), (.int .i64 x32_2), (.int .i64 x32_3), (.int .i64 x32_4), (.int .i64 x32_5), (.int .i64 x32_6), (.int .i64 x32_7), (.int .i64 x32_8), (.int .i64 x32_9), (.int .i64 x32_10), (.int .i64 x32_11), (.int .i64 x32_12)] fun h_6 =>
 oI .i64 (h_6.cell ((⟨b13, 0, none⟩ : Addr).add 0)) fun x34_0 =>
 oI .i64 (h_6.cell ((⟨b13, 0, none⟩ : Addr).add 1)) fun x34_1 =>
 oI .i64 (h_6.cell ((⟨b13, 0, none⟩ : Addr).add 2)) fun x34_2 =>
 oI .i64 (h_6.cell ((⟨b13, 0, none⟩ : Addr).add 3)) fun x34_3 =>
 oI .i64 (h_6.cell ((⟨b13, 0, none⟩ : Addr).add 4)) fun x34_4 =>
 oI .i64 (h_6.cell ((⟨b13, 0, none⟩ : Addr).add 5)) fun x34_5 =>
 oI .i64 (h_6.cell ((⟨b13, 0, none⟩ : Addr).add 6)) fun x34_6 =>
 oI .i64 (h_6.cell ((⟨b13, 0, none⟩ : Addr).add 7)) fun x34_7 =>
 oI .i64 (h_6.cell ((⟨b13, 0, none⟩ : Addr).add 8)) fun x34_8 =>
 oI .i64 (h_6.cell ((⟨b13, 0, none⟩ : Addr).add 9)) fun x34_9 =>
 oI .i64 (h_6.cell ((⟨b13, 0, none⟩ : Addr).add 10)) fun x34_10 =>
 oI .i64 (h_6.cell ((⟨b13, 0, none⟩ : Addr).add 11)) fun x34_11 =>
 oI .i64 (h_6.cell ((⟨b13, 0, none⟩ : Addr).add 12)) fun x34_12 =>
 Meets Try.prog 40 #[(.pointer x19), (.agg #[(.int .i64 x34_0), (.int .i64 x34_1), (.int .i64 x34_2), (.int .i64 x34_3), (.int .i64 x34_4), (.int .i64 x34_5), (.int .i64 x34_6), (.int .i64 x34_7), (.int .i64 x34_8), (.int .i64 x34_9), (.int .i64 x34_10), (.int .i64 x34_11), (.int .i64 x34_12)])] h_6 fun v35 h_7 =>
 oI .i64 (some v35) fun x35 =>
 xIte (x35 != 0) (fun J_6 =>
 Q (.tuple #[(.int .i64 x28), (.bool false)]) h_7)
 (fun J_6 =>
 J_6 h_7)
 (fun  (h_8 : PH) =>
 J_5 h_8))
 (fun  (h_9 : PH) =>
 J_3 (IntKind.wrap .i64 (x28 + 1)) h_9)))) n 0 h_2)
 (fun  (h_10 : PH) =>
 Q (.tuple #[(.int .i64 ((a3l : Nat) : Int)), (.bool true)]) h_10))
theorem P_ghost_Right_eq (a0 : Int) (a1 : Int) (a2 : Int) (a3a : Option Addr) (a3l : Nat) (a3c : Nat) (h : PH) (Q : Value → PH → Prop) : dFn Try.prog Try.f36 A_ghost_Right #[(.int .i64 a0), (.int .i64 a1), (.int .i64 a2), (.slice a3a a3l a3c)] h Q = P_ghost_Right a0 a1 a2 a3a a3l a3c h Q := by kernel_rfl
theorem P_ghost_Right_of {a0 : Int} {a1 : Int} {a2 : Int} {a3a : Option Addr} {a3l : Nat} {a3c : Nat} {h : PH} {Q : Value → PH → Prop} (x : P_ghost_Right a0 a1 a2 a3a a3l a3c h Q) : Meets Try.prog 36 #[(.int .i64 a0), (.int .i64 a1), (.int .i64 a2), (.slice a3a a3l a3c)] h Q :=
  spec_of Try.func36 mix (by kernel_rfl) ((P_ghost_Right_eq a0 a1 a2 a3a a3l a3c h Q).symm ▸ x)
/-- futtock/futtockref15.Right -/
def A_ref15_Right : Ann := .seq (.leaf) (.seq (.leaf) (.seq (.leaf) (.seq (.seq (.leaf) (.cond [] (.seq (.draw [(0, .flt), (1, .flt), (2, .flt), (3, .eff), (4, .brk)]) (.leaf)) (.leaf))) (.seq (.seq (.leaf) (.block [] (.loop [(14, (.int .i64))] (.seq (.seq (.leaf) (.cond [] (.leaf) (.leaf))) (.seq (.block [] (.seq (.leaf) (.seq (.seq (.leaf) (.cond [] (.seq (.draw [(0, .flt), (1, .flt), (2, .flt), (3, .flt), (4, .eff), (5, .brk)]) (.leaf)) (.leaf))) (.seq (.leaf) (.seq (.seq (.leaf) (.block [] (.seq (.leaf) (.cond [] (.seq (.seq (.leaf) (.cond [] (.seq (.draw [(0, .flt), (1, .flt), (2, .flt), (3, .flt), (4, .eff), (5, .brk)]) (.leaf)) (.leaf))) (.leaf)) (.seq (.leaf) (.cond [] (.seq (.leaf) (.seq (.seq (.leaf) (.cond [] (.seq (.draw [(0, .flt), (1, .flt), (2, .flt), (3, .flt), (4, .eff), (5, .brk)]) (.leaf)) (.leaf))) (.seq (.leaf) (.draw2 [(0, .flt), (1, .flt), (3, .flt), (4, .flt)] [(2, .eff), (5, .eff), (6, .eff), (7, .flt), (8, .brk)] [(5, .eff), (2, .eff), (6, .eff), (7, .flt), (8, .brk)])))) (.seq (.leaf) (.seq (.seq (.leaf) (.cond [] (.seq (.draw [(0, .flt), (1, .flt), (2, .flt), (3, .flt), (4, .eff), (5, .brk)]) (.leaf)) (.leaf))) (.leaf))))))))) (.leaf)))))) (.leaf)))))) (.seq (.draw [(0, .flt), (1, .flt), (2, .flt), (3, .flt), (4, .flt), (5, .eff), (6, .brk)]) (.leaf))))))
def P_ref15_Right (a0 : Int) (a1 : Int) (a2 : Int) (a3a : Option Addr) (a3l : Nat) (a3c : Nat) (h : PH) (Q : Value → PH → Prop) : Prop :=
 xNew h (.cells (zeroC Try.prog 77) 77 (0, 0)) fun b9 h_1 =>
 xNew h_1 (.cells (zeroC Try.prog 95) 95 (0, 0)) fun b10 h_2 =>
 Meets Try.prog 33 #[(.int .i64 a0), (.int .i64 a1), (.int .i64 a2)] h_2 fun v26 h_3 =>
 oTup v26 2 fun x26cs =>
 oIx x26cs[0]? fun x26w =>
 oAgg x26w 227 fun x26_0cs =>
 oIx x26cs[1]? fun x26w_1 =>
 oI .i64 (some x26w_1) fun x26_1 =>
 oAgg (.agg x26_0cs) 227 fun x27cs =>
 oI .i64 (some (.int .i64 x26_1)) fun x28 =>
 xNew h_3 (.cells (zeroC Try.prog 77) 77 (0, 0)) fun b11 h_4 =>
 xSt 227 h_4 (⟨b11, 0, none⟩ : Addr) (Array.toList x27cs) fun h_5 =>
 xNew h_5 (.cells (zeroC Try.prog 95) 95 (0, 0)) fun b13 h_6 =>
 xIte (x28 != 0) (fun J_1 =>
 xDraw h_6 fun hs_1 =>
 oBig hs_1 (⟨b11, 0, none⟩ : Addr) 227 fun x31 =>
 oBig hs_1 (⟨b13, 0, none⟩ : Addr) 48 fun x32 =>
 xSt 227 h_6 (⟨b9, 0, none⟩ : Addr) (Array.toList x31) fun h_7 =>
 PH.le hs_1 h_7 ∧
 xSt 48 h_7 (⟨b10, 0, none⟩ : Addr) (Array.toList x32) fun h_8 =>
 oBig h_8 (⟨b9, 0, none⟩ : Addr) 227 fun y9 =>
 oBig h_8 (⟨b10, 0, none⟩ : Addr) 48 fun y10 =>
 Q (.tuple #[(.int .i64 0), (.agg y9), (.agg y10)]) h_8)
 (fun J_1 =>
 J_1 h_6)
 (fun  (h_9 : PH) =>
 xBlk (fun J_2 =>
 ∃ n, xLoopN (fun _ _ => False) (fun J_3 =>
 (fun (x14 : Int) (h_10 : PH) =>
 xIte (decide ((x14 : Int) < ((a3l : Nat) : Int))) (fun J_4 =>
 J_4 h_10)
 (fun J_4 =>
 J_2 h_10)
 (fun  (h_11 : PH) =>
 xBlk (fun J_5 =>
 xIdx a3a a3l x14 13 fun x41 =>
 oI .i64 (h_11.cell (x41.add 0)) fun x42_0 =>
 oI .i64 (h_11.cell (x41.add 1)) fun x42_1 =>
 oI .i64 (h_11.cell (x41.add 2)) fun x42_2 =>
 oI .i64 (h_11.cell (x41.add 3)) fun x42_3 =>
 oI .i64 (h_11.cell (x41.add 4)) fun x42_4 =>
 oI .i64 (h_11.cell (x41.add 5)) fun x42_5 =>
 oI .i64 (h_11.cell (x41.add 6)) fun x42_6 =>
 oI .i64 (h_11.cell (x41.add 7)) fun x42_7 =>
 oI .i64 (h_11.cell (x41.add 8)) fun x42_8 =>
 oI .i64 (h_11.cell (x41.add 9)) fun x42_9 =>
 oI .i64 (h_11.cell (x41.add 10)) fun x42_10 =>
 oI .i64 (h_11.cell (x41.add 11)) fun x42_11 =>
 oI .i64 (h_11.cell (x41.add 12)) fun x42_12 =>
 xNew h_11 (.cells #[(.int .i64 0), (.int .i64 0), (.int .i64 0), (.int .i64 0), (.int .i64 0), (.int .i64 0), (.int .i64 0), (.int .i64 0), (.int .i64 0), (.int .i64 0), (.int .i64 0), (.int .i64 0), (.int .i64 0)] 88 (0, 0)) fun b15 h_12 =>
 xSt 13 h_12 (⟨b15, 0, none⟩ : Addr) [(.int .i64 x42_0), (.int .i64 x42_1), (.int .i64 x42_2), (.int .i64 x42_3), (.int .i64 x42_4), (.int .i64 x42_5), (.int .i64 x42_6), (.int .i64 x42_7), (.int .i64 x42_8), (.int .i64 x42_9), (.int .i64 x42_10), (.int .i64 x42_11), (.int .i64 x42_12)] fun h_13 =>
 oI .i64 (h_13.cell ((⟨b15, 0, none⟩ : Addr).add 0)) fun x43_0 =>
 oI .i64 (h_13.cell ((⟨b15, 0, none⟩ : Addr).add 1)) fun x43_1 =>
 oI .i64 (h_13.cell ((⟨b15, 0, none⟩ : Addr).add 2)) fun x43_2 =>
 oI .i64 (h_13.cell ((⟨b15, 0, none⟩ : Addr).add 3)) fun x43_3 =>
 oI .i64 (h_13.cell ((⟨b15, 0, none⟩ : Addr).add 4)) fun x43_4 =>
 oI .i64 (h_13.cell ((⟨b15, 0, none⟩ : Addr).add 5)) fun x43_5 =>
 oI .i64 (h_13.cell ((⟨b15, 0, none⟩ : Addr).add 6)) fun x43_6 =>
 oI .i64 (h_13.cell ((⟨b15, 0, none⟩ : Addr).add 7)) fun x43_7 =>
 oI .i64 (h_13.cell ((⟨b15, 0, none⟩ : Addr).add 8)) fun x43_8 =>
 oI .i64 (h_13.cell ((⟨b15, 0, none⟩ : Addr).add 9)) fun x43_9 =>
 oI .i64 (h_13.cell ((⟨b15, 0, none⟩ : Addr).add 10)) fun x43_10 =>
 oI .i64 (h_13.cell ((⟨b15, 0, none⟩ : Addr).add 11)) fun x43_11 =>
 oI .i64 (h_13.cell ((⟨b15, 0, none⟩ : Addr).add 12)) fun x43_12 =>
 Meets Try.prog 65 #[(.agg #[(.int .i64 x43_0), (.int .i64 x43_1), (.int .i64 x43_2), (.int .i64 x43_3), (.int .i64 x43_4), (.int .i64 x43_5), (.int .i64 x43_6), (.int .i64 x43_7), (.int .i64 x43_8), (.int .i64 x43_9), (.int .i64 x43_10), (.int .i64 x43_11), (.int .i64 x43_12)])] h_13 fun v44 h_14 =>
 oB (some v44) fun x44 =>
 xSc (!x44) false (fun J_6 =>
 oI .i64 (h_14.cell ((⟨b15, 0, none⟩ : Addr).add 1)) fun x48 =>
 J_6 (decide ((x48 : Int) < 0)) h_14)
 (fun r50 h_15 =>
 xSc r50 false (fun J_7 =>
 oI .i64 (h_15.cell ((⟨b15, 0, none⟩ : Addr).add 1)) fun x53 =>
 J_7 (decide ((x53 : Int) ≥ a0)) h_15)
 (fun r56 h_16 =>
 xIte r56 (fun J_8 =>
 xDraw h_16 fun hs_2 =>
 oBig hs_2 (⟨b11, 0, none⟩ : Addr) 227 fun x58 =>
 oBig hs_2 (⟨b13, 0, none⟩ : Addr) 48 fun x59 =>
 xSt 227 h_16 (⟨b9, 0, none⟩ : Addr) (Array.toList x58) fun h_17 =>
 PH.le hs_2 h_17 ∧
 xSt 48 h_17 (⟨b10, 0, none⟩ : Addr) (Array.toList x59) fun h_18 =>
 oBig h_18 (⟨b9, 0, none⟩ : Addr) 227 fun y9_1 =>
 oBig h_18 (⟨b10, 0, none⟩ : Addr) 48 fun y10_1 =>
 Q (.tuple #[(.int .i64 x14), (.agg y9_1), (.agg y10_1)]) h_18)
 (fun J_8 =>
 J_8 h_16)
 (fun  (h_19 : PH) =>
 oI .i64 (h_19.cell ((⟨b15, 0, none⟩ : Addr).add 1)) fun x61 =>
 xIdxA (⟨b13, 0, none⟩ : Addr) 8 x61 6 fun x62 =>
 oI .i64 (h_19.cell (x62.add 0)) fun x63_0 =>
 oB (h_19.cell (x62.add 1)) fun x63_1 =>
 oI .i64 (h_19.cell (x62.add 2)) fun x63_2 =>
 oI .i64 (h_19.cell (x62.add 3)) fun x63_3 =>
 oI .i64 (h_19.cell (x62.add 4)) fun x63_4 =>
 oS (h_19.cell (x62.add 5)) fun x63_5a x63_5l x63_5c =>
 xNew h_19 (.cells #[(.int .i64 0), (.bool false), (.int .i64 0), (.int .i64 0), (.int .i64 0), (.slice none 0 0)] 94 (0, 0)) fun b16 h_20 =>
 xSt 6 h_20 (⟨b16, 0, none⟩ : Addr) [(.int .i64 x63_0), (.bool x63_1), (.int .i64 x63_2), (.int .i64 x63_3), (.int .i64 x63_4), (.slice x63_5a x63_5l x63_5c)] fun h_21 =>
 oI .i64 (h_21.cell ((⟨b15, 0, none⟩ : Addr).add 0)) fun x65 =>
 xBlk (fun J_9 =>
 xIte (x65 == 1) (fun J_10 =>
 oB (h_21.cell ((⟨b16, 0, none⟩ : Addr).add 1)) fun x103 =>
 xSc x103 false (fun J_11 =>
 oI .i64 (h_21.cell ((⟨b15, 0, none⟩ : Addr).add 2)) fun x106 =>
 oI .i64 (h_21.cell ((⟨b16, 0, none⟩ : Addr).add 0)) fun x108 =>
 J_11 (x106 != x108) h_21)
 (fun r110 h_22 =>
 xSc r110 false (fun J_12 =>
 oI .i64 (h_22.cell (((⟨b15, 0, none⟩ : Addr).add 3).add 0)) fun x113_0 =>
 oI .i64 (h_22.cell (((⟨b15, 0, none⟩ : Addr).add 3).add 1)) fun x113_1 =>
 oI .i64 (h_22.cell (((⟨b15, 0, none⟩ : Addr).add 3).add 2)) fun x113_2 =>
 Meets Try.prog 66 #[(.agg #[(.int .i64 x113_0), (.int .i64 x113_1), (.int .i64 x113_2)]), (.int .i64 a0), (.int .i64 a1)] h_22 fun v116 h_23 =>
 oB (some v116) fun x116 =>
 J_12 (!x116) h_23)
 (fun r118 h_24 =>
 xIte r118 (fun J_13 =>
 xDraw h_24 fun hs_3 =>
 oBig hs_3 (⟨b11, 0, none⟩ : Addr) 227 fun x120 =>
 oBig hs_3 (⟨b13, 0, none⟩ : Addr) 48 fun x121 =>
 xSt 227 h_24 (⟨b9, 0, none⟩ : Addr) (Array.toList x120) fun h_25 =>
 PH.le hs_3 h_25 ∧
 xSt 48 h_25 (⟨b10, 0, none⟩ : Addr) (Array.toList x121) fun h_26 =>
 oBig h_26 (⟨b9, 0, none⟩ : Addr) 227 fun y9_2 =>
 oBig h_26 (⟨b10, 0, none⟩ : Addr) 48 fun y10_2 =>
 Q (.tuple #[(.int .i64 x14), (.agg y9_2), (.agg y10_2)]) h_26)
 (fun J_13 =>
 J_13 h_24)
 (fun  (h_27 : PH) =>
 oI .i64 (h_27.cell ((⟨b16, 0, none⟩ : Addr).add 0)) fun x123 =>
 oI .i64 (h_27.cell (((⟨b15, 0, none⟩ : Addr).add 3).add 0)) fun x126_0 =>
 oI .i64 (h_27.cell (((⟨b15, 0, none⟩ : Addr).add 3).add 1)) fun x126_1 =>
 oI .i64 (h_27.cell (((⟨b15, 0, none⟩ : Addr).add 3).add 2)) fun x126_2 =>
 xSt 6 h_27 (⟨b16, 0, none⟩ : Addr) [(.int .i64 (IntKind.wrap .i64 (x123 + 1))), (.bool true), (.int .i64 x126_0), (.int .i64 x126_1), (.int .i64 x126_2), (.slice none 0 0)] fun h_28 =>
 J_10 h_28)) h_22) h_21)
 (fun J_10 =>
 xIte (x65 == 2) (fun J_14 =>
 oBig h_21 (⟨b11, 0, none⟩ : Addr) 227 fun x131 =>
 oI .i64 (h_21.cell (((⟨b15, 0, none⟩ : Addr).add 6).add 0)) fun x133_0 =>
 oI .i64 (h_21.cell (((⟨b15, 0, none⟩ : Addr).add 6).add 1)) fun x133_1 =>
 oI .i64 (h_21.cell (((⟨b15, 0, none⟩ : Addr).add 6).add 2)) fun x133_2 =>
 oI .i64 (h_21.cell (((⟨b15, 0, none⟩ : Addr).add 6).add 3)) fun x133_3 =>
 oI .i64 (h_21.cell (((⟨b15, 0, none⟩ : Addr).add 6).add 4)) fun x133_4 =>
 Meets Try.prog 64 #[(.agg x131), (.agg #[(.int .i64 x133_0), (.int .i64 x133_1), (.int .i64 x133_2), (.int .i64 x133_3), (.int .i64 x133_4)])] h_21 fun v134 h_29 =>
 oTup v134 2 fun x134cs =>
 oIx x134cs[0]? fun x134w =>
 oAgg x134w 227 fun x134_0cs =>
 oIx x134cs[1]? fun x134w_1 =>
 oI .i64 (some x134w_1) fun x134_1 =>
 oAgg (.agg x134_0cs) 227 fun x135cs =>
 oI .i64 (some (.int .i64 x134_1)) fun x136 =>
 xNew h_29 (.cells (zeroC Try.prog 77) 77 (0, 0)) fun b17 h_30 =>
 xSt 227 h_30 (⟨b17, 0, none⟩ : Addr) (Array.toList x135cs) fun h_31 =>
 oI .i64 (h_31.cell ((⟨b16, 0, none⟩ : Addr).add 0)) fun x137_0 =>
 oB (h_31.cell ((⟨b16, 0, none⟩ : Addr).add 1)) fun x137_1 =>
 oI .i64 (h_31.cell ((⟨b16, 0, none⟩ : Addr).add 2)) fun x137_2 =>
 oI .i64 (h_31.cell ((⟨b16, 0, none⟩ : Addr).add 3)) fun x137_3 =>
 oI .i64 (h_31.cell ((⟨b16, 0, none⟩ : Addr).add 4)) fun x137_4 =>
 oS (h_31.cell ((⟨b16, 0, none⟩ : Addr).add 5)) fun x137_5a x137_5l x137_5c =>
 oI .i64 (h_31.cell (((⟨b15, 0, none⟩ : Addr).add 6).add 0)) fun x139_0 =>
 oI .i64 (h_31.cell (((⟨b15, 0, none⟩ : Addr).add 6).add 1)) fun x139_1 =>
 oI .i64 (h_31.cell (((⟨b15, 0, none⟩ : Addr).add 6).add 2)) fun x139_2 =>
 oI .i64 (h_31.cell (((⟨b15, 0, none⟩ : Addr).add 6).add 3)) fun x139_3 =>
 oI .i64 (h_31.cell (((⟨b15, 0, none⟩ : Addr).add 6).add 4)) fun x139_4 =>
 Meets Try.prog 67 #[(.agg #[(.int .i64 x137_0), (.bool x137_1), (.int .i64 x137_2), (.int .i64 x137_3), (.int .i64 x137_4), (.slice x137_5a x137_5l x137_5c)]), (.agg #[(.int .i64 x139_0), (.int .i64 x139_1), (.int .i64 x139_2), (.int .i64 x139_3), (.int .i64 x139_4)])] h_31 fun v140 h_32 =>
 oB (some v140) fun x140 =>
 xSc (!x140) false (fun J_15 =>
 J_15 (x136 != 0) h_32)
 (fun r145 h_33 =>
 xIte r145 (fun J_16 =>
 xDraw h_33 fun hs_4 =>
 oBig hs_4 (⟨b11, 0, none⟩ : Addr) 227 fun x147 =>
 oBig hs_4 (⟨b13, 0, none⟩ : Addr) 48 fun x148 =>
 xSt 227 h_33 (⟨b9, 0, none⟩ : Addr) (Array.toList x147) fun h_34 =>
 PH.le hs_4 h_34 ∧
 xSt 48 h_34 (⟨b10, 0, none⟩ : Addr) (Array.toList x148) fun h_35 =>
 oBig h_35 (⟨b9, 0, none⟩ : Addr) 227 fun y9_3 =>
 oBig h_35 (⟨b10, 0, none⟩ : Addr) 48 fun y10_3 =>
 Q (.tuple #[(.int .i64 x14), (.agg y9_3), (.agg y10_3)]) h_35)
 (fun J_16 =>
 J_16 h_33)
 (fun  (h_36 : PH) =>
 oBig h_36 (⟨b17, 0, none⟩ : Addr) 227 fun x149 =>
 xSt 227 h_36 (⟨b11, 0, none⟩ : Addr) (Array.toList x149) fun h_37 =>
 xDraw h_37 fun hs_5 =>
 oS (hs_5.cell ((⟨b16, 0, none⟩ : Addr).add 5)) fun x151a x151l x151c =>
 oI .i64 (hs_5.cell (((⟨b15, 0, none⟩ : Addr).add 6).add 0)) fun x154_0 =>
 oI .i64 (hs_5.cell (((⟨b15, 0, none⟩ : Addr).add 6).add 1)) fun x154_1 =>
 oI .i64 (hs_5.cell (((⟨b15, 0, none⟩ : Addr).add 6).add 2)) fun x154_2 =>
 oI .i64 (hs_5.cell (((⟨b15, 0, none⟩ : Addr).add 6).add 3)) fun x154_3 =>
 oI .i64 (hs_5.cell (((⟨b15, 0, none⟩ : Addr).add 6).add 4)) fun x154_4 =>
 (xApp h_37 29 5 40 none 0 0 (.slice x151a x151l x151c) fun x152a x152l x152c h_38 =>
 PH.le hs_5 h_38 ∧
 xNew h_38 (.cells #[(.int .i64 x154_0), (.int .i64 x154_1), (.int .i64 x154_2), (.int .i64 x154_3), (.int .i64 x154_4)] 29 (0, 0)) fun b155 h_39 =>
 PH.le hs_5 h_39 ∧
 xApp h_39 29 5 40 x152a x152l x152c (.slice (some (⟨b155, 0, none⟩ : Addr)) 1 1) fun x156a x156l x156c h_40 =>
 PH.le hs_5 h_40 ∧
 xSt 1 h_40 ((⟨b16, 0, none⟩ : Addr).add 5) [(.slice x156a x156l x156c)] fun h_41 =>
 J_14 h_41) ∧
 (xNew h_37 (.cells #[(.int .i64 x154_0), (.int .i64 x154_1), (.int .i64 x154_2), (.int .i64 x154_3), (.int .i64 x154_4)] 29 (0, 0)) fun b155_1 h_42 =>
 PH.le hs_5 h_42 ∧
 xApp h_42 29 5 40 none 0 0 (.slice x151a x151l x151c) fun x152a_1 x152l_1 x152c_1 h_43 =>
 PH.le hs_5 h_43 ∧
 xApp h_43 29 5 40 x152a_1 x152l_1 x152c_1 (.slice (some (⟨b155_1, 0, none⟩ : Addr)) 1 1) fun x156a_1 x156l_1 x156c_1 h_44 =>
 PH.le hs_5 h_44 ∧
 xSt 1 h_44 ((⟨b16, 0, none⟩ : Addr).add 5) [(.slice x156a_1 x156l_1 x156c_1)] fun h_45 =>
 J_14 h_45))) h_32)
 (fun J_14 =>
 oI .i64 (h_21.cell ((⟨b16, 0, none⟩ : Addr).add 0)) fun x67_0 =>
 oB (h_21.cell ((⟨b16, 0, none⟩ : Addr).add 1)) fun x67_1 =>
 oI .i64 (h_21.cell ((⟨b16, 0, none⟩ : Addr).add 2)) fun x67_2 =>
 oI .i64 (h_21.cell ((⟨b16, 0, none⟩ : Addr).add 3)) fun x67_3 =>
 oI .i64 (h_21.cell ((⟨b16, 0, none⟩ : Addr).add 4)) fun x67_4 =>
 oS (h_21.cell ((⟨b16, 0, none⟩ : Addr).add 5)) fun x67_5a x67_5l x67_5c =>
 Meets Try.prog 68 #[(.agg #[(.int .i64 x67_0), (.bool x67_1), (.int .i64 x67_2), (.int .i64 x67_3), (.int .i64 x67_4), (.slice x67_5a x67_5l x67_5c)])] h_21 fun v68 h_46 =>
 oTup v68 3 fun x68cs =>
 oIx x68cs[0]? fun x68w =>
 oI .i64 (some x68w) fun x68_0 =>
 oIx x68cs[1]? fun x68w_1 =>
 oI .i64 (some x68w_1) fun x68_1 =>
 oIx x68cs[2]? fun x68w_2 =>
 oB (some x68w_2) fun x68_2 =>
 oI .i64 (some (.int .i64 x68_0)) fun x69 =>
 oI .i64 (some (.int .i64 x68_1)) fun x70 =>
 oB (some (.bool x68_2)) fun x71 =>
 xSc (!x71) false (fun J_17 =>
 oI .i64 (h_46.cell ((⟨b15, 0, none⟩ : Addr).add 2)) fun x76 =>
 oI .i64 (h_46.cell ((⟨b16, 0, none⟩ : Addr).add 0)) fun x78 =>
 J_17 (x76 != (IntKind.wrap .i64 (x78 - 1))) h_46)
 (fun r81 h_47 =>
 xSc r81 false (fun J_18 =>
 oI .i64 (h_47.cell ((⟨b15, 0, none⟩ : Addr).add 11)) fun x84 =>
 J_18 (x84 != x69) h_47)
 (fun r87 h_48 =>
 xSc r87 false (fun J_19 =>
 oI .i64 (h_48.cell ((⟨b15, 0, none⟩ : Addr).add 12)) fun x90 =>
 J_19 (x90 != x70) h_48)
 (fun r93 h_49 =>
 xIte r93 (fun J_20 =>
 xDraw h_49 fun hs_6 =>
 oBig hs_6 (⟨b11, 0, none⟩ : Addr) 227 fun x95 =>
 oBig hs_6 (⟨b13, 0, none⟩ : Addr) 48 fun x96 =>
 xSt 227 h_49 (⟨b9, 0, none⟩ : Addr) (Array.toList x95) fun h_50 =>
 PH.le hs_6 h_50 ∧
 xSt 48 h_50 (⟨b10, 0, none⟩ : Addr) (Array.toList x96) fun h_51 =>
 oBig h_51 (⟨b9, 0, none⟩ : Addr) 227 fun y9_4 =>
 oBig h_51 (⟨b10, 0, none⟩ : Addr) 48 fun y10_4 =>
 Q (.tuple #[(.int .i64 x14), (.agg y9_4), (.agg y10_4)]) h_51)
 (fun J_20 =>
 J_20 h_49)
 (fun  (h_52 : PH) =>
 oI .i64 (h_52.cell ((⟨b16, 0, none⟩ : Addr).add 0)) fun x98 =>
 xSt 6 h_52 (⟨b16, 0, none⟩ : Addr) [(.int .i64 x98), (.bool false), (.int .i64 0), (.int .i64 0), (.int .i64 0), (.slice none 0 0)] fun h_53 =>
 J_14 h_53)) h_48) h_47) h_46)
 (fun  (h_54 : PH) =>
 J_10 h_54))
 (fun  (h_55 : PH) =>
 J_9 h_55))
 (fun  (h_56 : PH) =>
 oI .i64 (h_56.cell ((⟨b15, 0, none⟩ : Addr).add 1)) fun x159 =>
 oI .i64 (h_56.cell ((⟨b16, 0, none⟩ : Addr).add 0)) fun x160_0 =>
 oB (h_56.cell ((⟨b16, 0, none⟩ : Addr).add 1)) fun x160_1 =>
 oI .i64 (h_56.cell ((⟨b16, 0, none⟩ : Addr).add 2)) fun x160_2 =>
 oI .i64 (h_56.cell ((⟨b16, 0, none⟩ : Addr).add 3)) fun x160_3 =>
 oI .i64 (h_56.cell ((⟨b16, 0, none⟩ : Addr).add 4)) fun x160_4 =>
 oS (h_56.cell ((⟨b16, 0, none⟩ : Addr).add 5)) fun x160_5a x160_5l x160_5c =>
 xIdxA (⟨b13, 0, none⟩ : Addr) 8 x159 6 fun x161 =>
 xSt 6 h_56 x161 [(.int .i64 x160_0), (.bool x160_1), (.int .i64 x160_2), (.int .i64 x160_3), (.int .i64 x160_4), (.slice x160_5a x160_5l x160_5c)] fun h_57 =>
 J_5 h_57))) h_15) h_14)
 (fun  (h_58 : PH) =>
 J_3 (IntKind.wrap .i64 (x14 + 1)) h_58)))) n 0 h_9)
 (fun  (h_59 : PH) =>
 xDraw h_59 fun hs_7 =>
 oBig hs_7 (⟨b11, 0, none⟩ : Addr) 227 fun x164 =>
 oBig hs_7 (⟨b13, 0, none⟩ : Addr) 48 fun x165 =>
 xSt 227 h_59 (⟨b9, 0, none⟩ : Addr) (Array.toList x164) fun h_60 =>
 PH.le hs_7 h_60 ∧
 xSt 48 h_60 (⟨b10, 0, none⟩ : Addr) (Array.toList x165) fun h_61 =>
 oBig h_61 (⟨b9, 0, none⟩ : Addr) 227 fun y9_5 =>
 oBig h_61 (⟨b10, 0, none⟩ : Addr) 48 fun y10_5 =>
 Q (.tuple #[(.int .i64 ((a3l : Nat) : Int)), (.agg y9_5), (.agg y10_5)]) h_61))
theorem P_ref15_Right_eq (a0 : Int) (a1 : Int) (a2 : Int) (a3a : Option Addr) (a3l : Nat) (a3c : Nat) (h : PH) (Q : Value → PH → Prop) : dFn Try.prog Try.f37 A_ref15_Right #[(.int .i64 a0), (.int .i64 a1), (.int .i64 a2), (.slice a3a a3l a3c)] h Q = P_ref15_Right a0 a1 a2 a3a a3l a3c h Q := by kernel_rfl
theorem P_ref15_Right_of {a0 : Int} {a1 : Int} {a2 : Int} {a3a : Option Addr} {a3l : Nat} {a3c : Nat} {h : PH} {Q : Value → PH → Prop} (x : P_ref15_Right a0 a1 a2 a3a a3l a3c h Q) : Meets Try.prog 37 #[(.int .i64 a0), (.int .i64 a1), (.int .i64 a2), (.slice a3a a3l a3c)] h Q :=
  spec_of Try.func37 mix (by kernel_rfl) ((P_ref15_Right_eq a0 a1 a2 a3a a3l a3c h Q).symm ▸ x)
/-- futtock/futtockref15.bare -/
def A_ref15_bare : Ann := .seq (.leaf) (.seq (.leaf) (.seq (.seq (.leaf) (.block [] (.seq (.leaf) (.cond [] (.leaf) (.seq (.leaf) (.cond [] (.leaf) (.seq (.leaf) (.cond [] (.leaf) (.seq (.leaf) (.leaf)))))))))) (.seq (.leaf) (.leaf))))
def P_ref15_bare (a0_0 : Int) (a0_1 : Int) (a0_2 : Int) (a0_3 : Int) (a0_4 : Int) (a0_5 : Int) (a0_6 : Int) (a0_7 : Int) (a0_8 : Int) (a0_9 : Int) (a0_10 : Int) (a0_11 : Int) (a0_12 : Int) (h : PH) (Q : Value → PH → Prop) : Prop :=
 xNew h (.cells #[(.int .i64 a0_0), (.int .i64 a0_1), (.int .i64 a0_2), (.int .i64 a0_3), (.int .i64 a0_4), (.int .i64 a0_5), (.int .i64 a0_6), (.int .i64 a0_7), (.int .i64 a0_8), (.int .i64 a0_9), (.int .i64 a0_10), (.int .i64 a0_11), (.int .i64 a0_12)] 88 (0, 0)) fun b1 h_1 =>
 xNew h_1 (.cells #[(.int .i64 0), (.int .i64 0), (.int .i64 0), (.int .i64 0), (.int .i64 0), (.int .i64 0), (.int .i64 0), (.int .i64 0), (.int .i64 0), (.int .i64 0), (.int .i64 0), (.int .i64 0), (.int .i64 0)] 88 (0, 0)) fun b3 h_2 =>
 oI .i64 (h_2.cell ((⟨b1, 0, none⟩ : Addr).add 0)) fun x5 =>
 xBlk (fun J_1 =>
 xIte (x5 == 1) (fun J_2 =>
 oI .i64 (h_2.cell ((⟨b1, 0, none⟩ : Addr).add 1)) fun x9 =>
 oI .i64 (h_2.cell ((⟨b1, 0, none⟩ : Addr).add 2)) fun x11 =>
 oI .i64 (h_2.cell (((⟨b1, 0, none⟩ : Addr).add 3).add 0)) fun x13_0 =>
 oI .i64 (h_2.cell (((⟨b1, 0, none⟩ : Addr).add 3).add 1)) fun x13_1 =>
 oI .i64 (h_2.cell (((⟨b1, 0, none⟩ : Addr).add 3).add 2)) fun x13_2 =>
 xSt 13 h_2 (⟨b3, 0, none⟩ : Addr) [(.int .i64 1), (.int .i64 x9), (.int .i64 x11), (.int .i64 x13_0), (.int .i64 x13_1), (.int .i64 x13_2), (.int .i64 0), (.int .i64 0), (.int .i64 0), (.int .i64 0), (.int .i64 0), (.int .i64 0), (.int .i64 0)] fun h_3 =>
 J_2 h_3)
 (fun J_2 =>
 xIte (x5 == 2) (fun J_3 =>
 oI .i64 (h_2.cell (((⟨b1, 0, none⟩ : Addr).add 6).add 1)) fun x19 =>
 oI .i64 (h_2.cell (((⟨b1, 0, none⟩ : Addr).add 6).add 0)) fun x21_0 =>
 oI .i64 (h_2.cell (((⟨b1, 0, none⟩ : Addr).add 6).add 1)) fun x21_1 =>
 oI .i64 (h_2.cell (((⟨b1, 0, none⟩ : Addr).add 6).add 2)) fun x21_2 =>
 oI .i64 (h_2.cell (((⟨b1, 0, none⟩ : Addr).add 6).add 3)) fun x21_3 =>
 oI .i64 (h_2.cell (((⟨b1, 0, none⟩ : Addr).add 6).add 4)) fun x21_4 =>
 xSt 13 h_2 (⟨b3, 0, none⟩ : Addr) [(.int .i64 2), (.int .i64 x19), (.int .i64 0), (.int .i64 0), (.int .i64 0), (.int .i64 0), (.int .i64 x21_0), (.int .i64 x21_1), (.int .i64 x21_2), (.int .i64 x21_3), (.int .i64 x21_4), (.int .i64 0), (.int .i64 0)] fun h_4 =>
 J_3 h_4)
 (fun J_3 =>
 xIte (x5 == 3) (fun J_4 =>
 oI .i64 (h_2.cell ((⟨b1, 0, none⟩ : Addr).add 1)) fun x26 =>
 oI .i64 (h_2.cell ((⟨b1, 0, none⟩ : Addr).add 2)) fun x28 =>
 oI .i64 (h_2.cell ((⟨b1, 0, none⟩ : Addr).add 11)) fun x30 =>
 oI .i64 (h_2.cell ((⟨b1, 0, none⟩ : Addr).add 12)) fun x32 =>
 xSt 13 h_2 (⟨b3, 0, none⟩ : Addr) [(.int .i64 3), (.int .i64 x26), (.int .i64 x28), (.int .i64 0), (.int .i64 0), (.int .i64 0), (.int .i64 0), (.int .i64 0), (.int .i64 0), (.int .i64 0), (.int .i64 0), (.int .i64 x30), (.int .i64 x32)] fun h_5 =>
 J_4 h_5)
 (fun J_4 =>
 Q (.bool false) h_2)
 (fun  (h_6 : PH) =>
 J_3 h_6))
 (fun  (h_7 : PH) =>
 J_2 h_7))
 (fun  (h_8 : PH) =>
 J_1 h_8))
 (fun  (h_9 : PH) =>
 oI .i64 (h_9.cell ((⟨b3, 0, none⟩ : Addr).add 0)) fun x34_0 =>
 oI .i64 (h_9.cell ((⟨b3, 0, none⟩ : Addr).add 1)) fun x34_1 =>
 oI .i64 (h_9.cell ((⟨b3, 0, none⟩ : Addr).add 2)) fun x34_2 =>
 oI .i64 (h_9.cell ((⟨b3, 0, none⟩ : Addr).add 3)) fun x34_3 =>
 oI .i64 (h_9.cell ((⟨b3, 0, none⟩ : Addr).add 4)) fun x34_4 =>
 oI .i64 (h_9.cell ((⟨b3, 0, none⟩ : Addr).add 5)) fun x34_5 =>
 oI .i64 (h_9.cell ((⟨b3, 0, none⟩ : Addr).add 6)) fun x34_6 =>
 oI .i64 (h_9.cell ((⟨b3, 0, none⟩ : Addr).add 7)) fun x34_7 =>
 oI .i64 (h_9.cell ((⟨b3, 0, none⟩ : Addr).add 8)) fun x34_8 =>
 oI .i64 (h_9.cell ((⟨b3, 0, none⟩ : Addr).add 9)) fun x34_9 =>
 oI .i64 (h_9.cell ((⟨b3, 0, none⟩ : Addr).add 10)) fun x34_10 =>
 oI .i64 (h_9.cell ((⟨b3, 0, none⟩ : Addr).add 11)) fun x34_11 =>
 oI .i64 (h_9.cell ((⟨b3, 0, none⟩ : Addr).add 12)) fun x34_12 =>
 oI .i64 (h_9.cell ((⟨b1, 0, none⟩ : Addr).add 0)) fun x35_0 =>
 oI .i64 (h_9.cell ((⟨b1, 0, none⟩ : Addr).add 1)) fun x35_1 =>
 oI .i64 (h_9.cell ((⟨b1, 0, none⟩ : Addr).add 2)) fun x35_2 =>
 oI .i64 (h_9.cell ((⟨b1, 0, none⟩ : Addr).add 3)) fun x35_3 =>
 oI .i64 (h_9.cell ((⟨b1, 0, none⟩ : Addr).add 4)) fun x35_4 =>
 oI .i64 (h_9.cell ((⟨b1, 0, none⟩ : Addr).add 5)) fun x35_5 =>
 oI .i64 (h_9.cell ((⟨b1, 0, none⟩ : Addr).add 6)) fun x35_6 =>
 oI .i64 (h_9.cell ((⟨b1, 0, none⟩ : Addr).add 7)) fun x35_7 =>
 oI .i64 (h_9.cell ((⟨b1, 0, none⟩ : Addr).add 8)) fun x35_8 =>
 oI .i64 (h_9.cell ((⟨b1, 0, none⟩ : Addr).add 9)) fun x35_9 =>
 oI .i64 (h_9.cell ((⟨b1, 0, none⟩ : Addr).add 10)) fun x35_10 =>
 oI .i64 (h_9.cell ((⟨b1, 0, none⟩ : Addr).add 11)) fun x35_11 =>
 oI .i64 (h_9.cell ((⟨b1, 0, none⟩ : Addr).add 12)) fun x35_12 =>
 xEq Try.prog 88 (.agg #[(.int .i64 x34_0), (.int .i64 x34_1), (.int .i64 x34_2), (.int .i64 x34_3), (.int .i64 x34_4), (.int .i64 x34_5), (.int .i64 x34_6), (.int .i64 x34_7), (.int .i64 x34_8), (.int .i64 x34_9), (.int .i64 x34_10), (.int .i64 x34_11), (.int .i64 x34_12)]) (.agg #[(.int .i64 x35_0), (.int .i64 x35_1), (.int .i64 x35_2), (.int .i64 x35_3), (.int .i64 x35_4), (.int .i64 x35_5), (.int .i64 x35_6), (.int .i64 x35_7), (.int .i64 x35_8), (.int .i64 x35_9), (.int .i64 x35_10), (.int .i64 x35_11), (.int .i64 x35_12)]) fun x36 =>
 Q (.bool x36) h_9)
theorem P_ref15_bare_eq (a0_0 : Int) (a0_1 : Int) (a0_2 : Int) (a0_3 : Int) (a0_4 : Int) (a0_5 : Int) (a0_6 : Int) (a0_7 : Int) (a0_8 : Int) (a0_9 : Int) (a0_10 : Int) (a0_11 : Int) (a0_12 : Int) (h : PH) (Q : Value → PH → Prop) : dFn Try.prog Try.f65 A_ref15_bare #[(.agg #[(.int .i64 a0_0), (.int .i64 a0_1), (.int .i64 a0_2), (.int .i64 a0_3), (.int .i64 a0_4), (.int .i64 a0_5), (.int .i64 a0_6), (.int .i64 a0_7), (.int .i64 a0_8), (.int .i64 a0_9), (.int .i64 a0_10), (.int .i64 a0_11), (.int .i64 a0_12)])] h Q = P_ref15_bare a0_0 a0_1 a0_2 a0_3 a0_4 a0_5 a0_6 a0_7 a0_8 a0_9 a0_10 a0_11 a0_12 h Q := by kernel_rfl
theorem P_ref15_bare_of {a0_0 : Int} {a0_1 : Int} {a0_2 : Int} {a0_3 : Int} {a0_4 : Int} {a0_5 : Int} {a0_6 : Int} {a0_7 : Int} {a0_8 : Int} {a0_9 : Int} {a0_10 : Int} {a0_11 : Int} {a0_12 : Int} {h : PH} {Q : Value → PH → Prop} (x : P_ref15_bare a0_0 a0_1 a0_2 a0_3 a0_4 a0_5 a0_6 a0_7 a0_8 a0_9 a0_10 a0_11 a0_12 h Q) : Meets Try.prog 65 #[(.agg #[(.int .i64 a0_0), (.int .i64 a0_1), (.int .i64 a0_2), (.int .i64 a0_3), (.int .i64 a0_4), (.int .i64 a0_5), (.int .i64 a0_6), (.int .i64 a0_7), (.int .i64 a0_8), (.int .i64 a0_9), (.int .i64 a0_10), (.int .i64 a0_11), (.int .i64 a0_12)])] h Q :=
  spec_of Try.func65 mix (by kernel_rfl) ((P_ref15_bare_eq a0_0 a0_1 a0_2 a0_3 a0_4 a0_5 a0_6 a0_7 a0_8 a0_9 a0_10 a0_11 a0_12 h Q).symm ▸ x)
/-- futtock/futtockref15.may -/
def A_ref15_may : Ann := .seq (.leaf) (.seq (.seq (.leaf) (.cond [] (.seq (.leaf) (.leaf)) (.leaf))) (.seq (.seq (.leaf) (.cond [] (.seq (.leaf) (.leaf)) (.leaf))) (.seq (.leaf) (.leaf))))
def P_ref15_may (a0_0 : Int) (a0_1 : Int) (a0_2 : Int) (a1 : Int) (a2 : Int) (h : PH) (Q : Value → PH → Prop) : Prop :=
 xNew h (.cells #[(.int .i64 a0_0), (.int .i64 a0_1), (.int .i64 a0_2)] 86 (0, 0)) fun b3 h_1 =>
 oI .i64 (h_1.cell ((⟨b3, 0, none⟩ : Addr).add 0)) fun x8 =>
 xSc (decide ((x8 : Int) < 1)) false (fun J_1 =>
 oI .i64 (h_1.cell ((⟨b3, 0, none⟩ : Addr).add 0)) fun x12 =>
 J_1 (decide ((x12 : Int) > 9)) h_1)
 (fun r14 h_2 =>
 xSc r14 false (fun J_2 =>
 oI .i64 (h_2.cell ((⟨b3, 0, none⟩ : Addr).add 1)) fun x17 =>
 J_2 (decide ((x17 : Int) < 0)) h_2)
 (fun r19 h_3 =>
 xSc r19 false (fun J_3 =>
 oI .i64 (h_3.cell ((⟨b3, 0, none⟩ : Addr).add 1)) fun x22 =>
 J_3 (decide ((x22 : Int) ≥ a2)) h_3)
 (fun r25 h_4 =>
 xSc r25 false (fun J_4 =>
 oI .i64 (h_4.cell ((⟨b3, 0, none⟩ : Addr).add 2)) fun x28 =>
 J_4 (decide ((x28 : Int) < 0)) h_4)
 (fun r30 h_5 =>
 xIte r30 (fun J_5 =>
 Q (.bool false) h_5)
 (fun J_5 =>
 J_5 h_5)
 (fun  (h_6 : PH) =>
 oI .i64 (h_6.cell ((⟨b3, 0, none⟩ : Addr).add 0)) fun x32 =>
 xIte (x32 == 9) (fun J_6 =>
 oI .i64 (h_6.cell ((⟨b3, 0, none⟩ : Addr).add 2)) fun x35 =>
 Q (.bool (decide ((x35 : Int) < a1))) h_6)
 (fun J_6 =>
 J_6 h_6)
 (fun  (h_7 : PH) =>
 oI .i64 (h_7.cell ((⟨b3, 0, none⟩ : Addr).add 0)) fun x39 =>
 xSc (x39 == 4) false (fun J_7 =>
 oI .i64 (h_7.cell ((⟨b3, 0, none⟩ : Addr).add 2)) fun x43 =>
 J_7 (x43 == 0) h_7)
 (fun r45 h_8 =>
 Q (.bool r45) h_8) h_7))) h_4) h_3) h_2) h_1
theorem P_ref15_may_eq (a0_0 : Int) (a0_1 : Int) (a0_2 : Int) (a1 : Int) (a2 : Int) (h : PH) (Q : Value → PH → Prop) : dFn Try.prog Try.f66 A_ref15_may #[(.agg #[(.int .i64 a0_0), (.int .i64 a0_1), (.int .i64 a0_2)]), (.int .i64 a1), (.int .i64 a2)] h Q = P_ref15_may a0_0 a0_1 a0_2 a1 a2 h Q := by kernel_rfl
theorem P_ref15_may_of {a0_0 : Int} {a0_1 : Int} {a0_2 : Int} {a1 : Int} {a2 : Int} {h : PH} {Q : Value → PH → Prop} (x : P_ref15_may a0_0 a0_1 a0_2 a1 a2 h Q) : Meets Try.prog 66 #[(.agg #[(.int .i64 a0_0), (.int .i64 a0_1), (.int .i64 a0_2)]), (.int .i64 a1), (.int .i64 a2)] h Q :=
  spec_of Try.func66 mix (by kernel_rfl) ((P_ref15_may_eq a0_0 a0_1 a0_2 a1 a2 h Q).symm ▸ x)
/-- futtock/futtockref15.commit -/
def A_ref15_commit : Ann := .seq (.leaf) (.seq (.seq (.leaf) (.cond [] (.seq (.leaf) (.leaf)) (.leaf))) (.seq (.leaf) (.seq (.seq (.leaf) (.cond [(5, (.int .i64))] (.leaf) (.leaf))) (.seq (.seq (.leaf) (.cond [] (.seq (.leaf) (.leaf)) (.leaf))) (.seq (.leaf) (.seq (.seq (.leaf) (.block [] (.seq (.leaf) (.cond [] (.seq (.seq (.leaf) (.cond [] (.seq (.leaf) (.leaf)) (.leaf))) (.seq (.leaf) (.seq (.leaf) (.leaf)))) (.seq (.seq (.leaf) (.cond [(84, .bool)] (.leaf) (.leaf))) (.cond [] (.seq (.seq (.leaf) (.cond [] (.seq (.leaf) (.leaf)) (.leaf))) (.seq (.seq (.leaf) (.cond [] (.seq (.leaf) (.leaf)) (.leaf))) (.seq (.seq (.draw [(0, .flt), (1, .flt), (2, .flt), (3, .flt), (4, .flt), (5, .eff), (6, .flt)]) (.cond [] (.seq (.leaf) (.leaf)) (.leaf))) (.seq (.leaf) (.seq (.seq (.leaf) (.cond [(8, (.int .i64))] (.leaf) (.leaf))) (.seq (.leaf) (.leaf))))))) (.leaf))))))) (.seq (.draw [(0, .flt), (1, .flt), (2, .flt), (3, .flt), (4, .flt), (5, .flt), (6, .flt), (7, .flt), (8, .eff), (9, .flt), (10, .flt), (11, .flt)]) (.leaf))))))))
def P_ref15_commit (a0_0 : Int) (a0_1 : Bool) (a0_2 : Int) (a0_3 : Int) (a0_4 : Int) (a0_5a : Option Addr) (a0_5l : Nat) (a0_5c : Nat) (a1_0 : Int) (a1_1 : Int) (a1_2 : Int) (a1_3 : Int) (a1_4 : Int) (h : PH) (Q : Value → PH → Prop) : Prop :=
 xNew h (.cells #[(.int .i64 a0_0), (.bool a0_1), (.int .i64 a0_2), (.int .i64 a0_3), (.int .i64 a0_4), (.slice a0_5a a0_5l a0_5c)] 94 (0, 0)) fun b2 h_1 =>
 xNew h_1 (.cells #[(.int .i64 a1_0), (.int .i64 a1_1), (.int .i64 a1_2), (.int .i64 a1_3), (.int .i64 a1_4)] 29 (0, 0)) fun b3 h_2 =>
 oB (h_2.cell ((⟨b2, 0, none⟩ : Addr).add 1)) fun x10 =>
 xIte (!x10) (fun J_1 =>
 Q (.bool false) h_2)
 (fun J_1 =>
 J_1 h_2)
 (fun  (h_3 : PH) =>
 oI .i64 (h_3.cell (((⟨b2, 0, none⟩ : Addr).add 2).add 1)) fun x14 =>
 oI .i64 (h_3.cell (((⟨b2, 0, none⟩ : Addr).add 2).add 0)) fun x17 =>
 xIte (x17 == 9) (fun J_2 =>
 J_2 0 h_3)
 (fun J_2 =>
 J_2 x14 h_3)
 (fun (x5 : Int) (h_4 : PH) =>
 oI .i64 (h_4.cell ((⟨b3, 0, none⟩ : Addr).add 2)) fun x20 =>
 xSc (x20 != x5) false (fun J_3 =>
 oI .i64 (h_4.cell (((⟨b2, 0, none⟩ : Addr).add 2).add 0)) fun x26 =>
 xSc (x26 == 9) true (fun J_4 =>
 oI .i64 (h_4.cell ((⟨b3, 0, none⟩ : Addr).add 3)) fun x30 =>
 oI .i64 (h_4.cell (((⟨b2, 0, none⟩ : Addr).add 2).add 2)) fun x33 =>
 J_4 (x30 != x33) h_4)
 (fun r35 h_5 =>
 J_3 r35 h_5) h_4)
 (fun r36 h_6 =>
 xIte r36 (fun J_5 =>
 Q (.bool false) h_6)
 (fun J_5 =>
 J_5 h_6)
 (fun  (h_7 : PH) =>
 oS (h_7.cell ((⟨b2, 0, none⟩ : Addr).add 5)) fun x38a x38l x38c =>
 oI .i64 (h_7.cell (((⟨b2, 0, none⟩ : Addr).add 2).add 0)) fun x42 =>
 xBlk (fun J_6 =>
 xIte (x42 == 4) (fun J_7 =>
 xIte (((x38l : Nat) : Int) == 0) (fun J_8 =>
 oI .i64 (h_7.cell ((⟨b3, 0, none⟩ : Addr).add 0)) fun x48 =>
 Q (.bool (x48 == 4)) h_7)
 (fun J_8 =>
 J_8 h_7)
 (fun  (h_8 : PH) =>
 oS (h_8.cell ((⟨b2, 0, none⟩ : Addr).add 5)) fun x51a x51l x51c =>
 xIdx x51a x51l (IntKind.wrap .i64 (((x38l : Nat) : Int) - 1)) 5 fun x54 =>
 oI .i64 (h_8.cell (x54.add 0)) fun x55_0 =>
 oI .i64 (h_8.cell (x54.add 1)) fun x55_1 =>
 oI .i64 (h_8.cell (x54.add 2)) fun x55_2 =>
 oI .i64 (h_8.cell (x54.add 3)) fun x55_3 =>
 oI .i64 (h_8.cell (x54.add 4)) fun x55_4 =>
 xNew h_8 (.cells #[(.int .i64 0), (.int .i64 0), (.int .i64 0), (.int .i64 0), (.int .i64 0)] 29 (0, 0)) fun b7 h_9 =>
 xSt 5 h_9 (⟨b7, 0, none⟩ : Addr) [(.int .i64 x55_0), (.int .i64 x55_1), (.int .i64 x55_2), (.int .i64 x55_3), (.int .i64 x55_4)] fun h_10 =>
 oI .i64 (h_10.cell ((⟨b7, 0, none⟩ : Addr).add 4)) fun x57 =>
 xSc (x57 == 0) true (fun J_9 =>
 oI .i64 (h_10.cell ((⟨b7, 0, none⟩ : Addr).add 0)) fun x61 =>
 J_9 (x61 == 4) h_10)
 (fun r63 h_11 =>
 xSc r63 true (fun J_10 =>
 oI .i64 (h_11.cell ((⟨b3, 0, none⟩ : Addr).add 0)) fun x66 =>
 xSc (x66 == 5) false (fun J_11 =>
 oI .i64 (h_11.cell ((⟨b3, 0, none⟩ : Addr).add 0)) fun x70 =>
 J_11 (x70 == 6) h_11)
 (fun r72 h_12 =>
 J_10 r72 h_12) h_11)
 (fun r73 h_13 =>
 xSc r73 false (fun J_12 =>
 oI .i64 (h_13.cell ((⟨b7, 0, none⟩ : Addr).add 0)) fun x76 =>
 xSc (x76 == 5) true (fun J_13 =>
 oI .i64 (h_13.cell ((⟨b3, 0, none⟩ : Addr).add 0)) fun x80 =>
 J_13 (x80 == 6) h_13)
 (fun r82 h_14 =>
 J_12 r82 h_14) h_13)
 (fun r83 h_15 =>
 Q (.bool r83) h_15) h_13) h_11) h_10))
 (fun J_7 =>
 xIte (x42 == 5) (fun J_14 =>
 J_14 (x42 == 5) h_7)
 (fun J_14 =>
 J_14 (x42 == 6) h_7)
 (fun (x84 : Bool) (h_16 : PH) =>
 xIte x84 (fun J_15 =>
 xSc (decide ((((x38l : Nat) : Int) : Int) > 0)) true (fun J_16 =>
 oS (h_16.cell ((⟨b2, 0, none⟩ : Addr).add 5)) fun x91a x91l x91c =>
 xIdx x91a x91l (IntKind.wrap .i64 (((x38l : Nat) : Int) - 1)) 5 fun x94 =>
 oI .i64 (h_16.cell (x94.add 0)) fun x96 =>
 J_16 (x96 != 7) h_16)
 (fun r98 h_17 =>
 xIte r98 (fun J_17 =>
 Q (.bool false) h_17)
 (fun J_17 =>
 J_17 h_17)
 (fun  (h_18 : PH) =>
 oI .i64 (h_18.cell ((⟨b3, 0, none⟩ : Addr).add 0)) fun x100 =>
 xIte (x100 == 7) (fun J_18 =>
 oI .i64 (h_18.cell (((⟨b2, 0, none⟩ : Addr).add 2).add 0)) fun x104 =>
 xSc (x104 == 6) false (fun J_19 =>
 J_19 (((x38l : Nat) : Int) == 0) h_18)
 (fun r109 h_19 =>
 Q (.bool r109) h_19) h_18)
 (fun J_18 =>
 J_18 h_18)
 (fun  (h_20 : PH) =>
 xDraw h_20 fun hs_1 =>
 oI .i64 (hs_1.cell ((⟨b3, 0, none⟩ : Addr).add 0)) fun x111 =>
 oI .i64 (hs_1.cell (((⟨b2, 0, none⟩ : Addr).add 2).add 0)) fun x114 =>
 Meets Try.prog 97 #[(.int .i64 x114)] h_20 fun v115 h_21 =>
 oI .i64 (some v115) fun x115 =>
 PH.le hs_1 h_21 ∧
 xIte (x111 != x115) (fun J_20 =>
 Q (.bool false) h_21)
 (fun J_20 =>
 J_20 h_21)
 (fun  (h_22 : PH) =>
 xIte (decide ((((x38l : Nat) : Int) : Int) > 0)) (fun J_21 =>
 oS (h_22.cell ((⟨b2, 0, none⟩ : Addr).add 5)) fun x120a x120l x120c =>
 xIdx x120a x120l (IntKind.wrap .i64 (((x38l : Nat) : Int) - 1)) 5 fun x123 =>
 oI .i64 (h_22.cell (x123.add 3)) fun x125 =>
 J_21 x125 h_22)
 (fun J_21 =>
 J_21 (-1) h_22)
 (fun (x8 : Int) (h_23 : PH) =>
 oI .i64 (h_23.cell (((⟨b2, 0, none⟩ : Addr).add 2).add 0)) fun x128 =>
 xSc (x128 == 6) false (fun J_22 =>
 oI .i64 (h_23.cell ((⟨b3, 0, none⟩ : Addr).add 3)) fun x132 =>
 J_22 (x132 == x8) h_23)
 (fun r135 h_24 =>
 Q (.bool r135) h_24) h_23))))) h_16)
 (fun J_15 =>
 J_15 h_16)
 (fun  (h_25 : PH) =>
 J_7 h_25)))
 (fun  (h_26 : PH) =>
 J_6 h_26))
 (fun  (h_27 : PH) =>
 xDraw h_27 fun hs_2 =>
 xSc (((x38l : Nat) : Int) == 0) true (fun J_23 =>
 oI .i64 (hs_2.cell ((⟨b3, 0, none⟩ : Addr).add 0)) fun x140 =>
 oI .i64 (hs_2.cell (((⟨b2, 0, none⟩ : Addr).add 2).add 0)) fun x143 =>
 Meets Try.prog 97 #[(.int .i64 x143)] h_27 fun v144 h_28 =>
 oI .i64 (some v144) fun x144 =>
 PH.le hs_2 h_28 ∧
 J_23 (x140 == x144) h_28)
 (fun r146 h_29 =>
 Q (.bool r146) h_29) h_27))) h_4))
theorem P_ref15_commit_eq (a0_0 : Int) (a0_1 : Bool) (a0_2 : Int) (a0_3 : Int) (a0_4 : Int) (a0_5a : Option Addr) (a0_5l : Nat) (a0_5c : Nat) (a1_0 : Int) (a1_1 : Int) (a1_2 : Int) (a1_3 : Int) (a1_4 : Int) (h : PH) (Q : Value → PH → Prop) : dFn Try.prog Try.f67 A_ref15_commit #[(.agg #[(.int .i64 a0_0), (.bool a0_1), (.int .i64 a0_2), (.int .i64 a0_3), (.int .i64 a0_4), (.slice a0_5a a0_5l a0_5c)]), (.agg #[(.int .i64 a1_0), (.int .i64 a1_1), (.int .i64 a1_2), (.int .i64 a1_3), (.int .i64 a1_4)])] h Q = P_ref15_commit a0_0 a0_1 a0_2 a0_3 a0_4 a0_5a a0_5l a0_5c a1_0 a1_1 a1_2 a1_3 a1_4 h Q := by kernel_rfl
theorem P_ref15_commit_of {a0_0 : Int} {a0_1 : Bool} {a0_2 : Int} {a0_3 : Int} {a0_4 : Int} {a0_5a : Option Addr} {a0_5l : Nat} {a0_5c : Nat} {a1_0 : Int} {a1_1 : Int} {a1_2 : Int} {a1_3 : Int} {a1_4 : Int} {h : PH} {Q : Value → PH → Prop} (x : P_ref15_commit a0_0 a0_1 a0_2 a0_3 a0_4 a0_5a a0_5l a0_5c a1_0 a1_1 a1_2 a1_3 a1_4 h Q) : Meets Try.prog 67 #[(.agg #[(.int .i64 a0_0), (.bool a0_1), (.int .i64 a0_2), (.int .i64 a0_3), (.int .i64 a0_4), (.slice a0_5a a0_5l a0_5c)]), (.agg #[(.int .i64 a1_0), (.int .i64 a1_1), (.int .i64 a1_2), (.int .i64 a1_3), (.int .i64 a1_4)])] h Q :=
  spec_of Try.func67 mix (by kernel_rfl) ((P_ref15_commit_eq a0_0 a0_1 a0_2 a0_3 a0_4 a0_5a a0_5l a0_5c a1_0 a1_1 a1_2 a1_3 a1_4 h Q).symm ▸ x)
/-- futtock/futtockref15.told -/
def A_ref15_told : Ann := .seq (.leaf) (.seq (.leaf) (.seq (.seq (.leaf) (.cond [] (.seq (.leaf) (.leaf)) (.leaf))) (.seq (.leaf) (.seq (.seq (.leaf) (.block [] (.seq (.leaf) (.cond [] (.seq (.draw [(0, .flt), (1, .flt), (2, .flt), (3, .flt), (4, .flt), (5, .flt), (6, .flt), (7, .flt), (8, .flt), (9, .flt), (10, .flt), (11, .flt), (12, .flt), (13, .flt), (14, .flt), (15, .flt), (16, .flt), (17, .flt)]) (.leaf)) (.seq (.leaf) (.cond [] (.seq (.draw [(0, .flt), (1, .flt), (2, .flt), (3, .flt), (4, .flt), (5, .flt), (6, .flt), (7, .flt), (8, .flt), (9, .flt)]) (.leaf)) (.seq (.leaf) (.cond [] (.seq (.draw [(0, .flt), (1, .flt), (2, .flt), (3, .flt), (4, .flt), (5, .flt), (6, .flt), (7, .flt), (8, .flt), (9, .flt)]) (.leaf)) (.leaf))))))))) (.seq (.draw [(0, .flt), (1, .flt), (2, .flt), (3, .flt), (5, .flt), (6, .flt), (4, .eff), (7, .flt), (8, .flt), (9, .flt)]) (.leaf))))))
def P_ref15_told (a0_0 : Int) (a0_1 : Bool) (a0_2 : Int) (a0_3 : Int) (a0_4 : Int) (a0_5a : Option Addr) (a0_5l : Nat) (a0_5c : Nat) (h : PH) (Q : Value → PH → Prop) : Prop :=
 xNew h (.cells #[(.int .i64 a0_0), (.bool a0_1), (.int .i64 a0_2), (.int .i64 a0_3), (.int .i64 a0_4), (.slice a0_5a a0_5l a0_5c)] 94 (0, 0)) fun b1 h_1 =>
 oS (h_1.cell ((⟨b1, 0, none⟩ : Addr).add 5)) fun x8a x8l x8c =>
 oB (h_1.cell ((⟨b1, 0, none⟩ : Addr).add 1)) fun x11 =>
 xSc (!x11) false (fun J_1 =>
 J_1 (((x8l : Nat) : Int) == 0) h_1)
 (fun r16 h_2 =>
 xIte r16 (fun J_2 =>
 Q (.tuple #[(.int .i64 0), (.int .i64 0), (.bool false)]) h_2)
 (fun J_2 =>
 J_2 h_2)
 (fun  (h_3 : PH) =>
 oS (h_3.cell ((⟨b1, 0, none⟩ : Addr).add 5)) fun x18a x18l x18c =>
 xIdx x18a x18l (IntKind.wrap .i64 (((x8l : Nat) : Int) - 1)) 5 fun x21 =>
 oI .i64 (h_3.cell (x21.add 0)) fun x22_0 =>
 oI .i64 (h_3.cell (x21.add 1)) fun x22_1 =>
 oI .i64 (h_3.cell (x21.add 2)) fun x22_2 =>
 oI .i64 (h_3.cell (x21.add 3)) fun x22_3 =>
 oI .i64 (h_3.cell (x21.add 4)) fun x22_4 =>
 xNew h_3 (.cells #[(.int .i64 0), (.int .i64 0), (.int .i64 0), (.int .i64 0), (.int .i64 0)] 29 (0, 0)) fun b6 h_4 =>
 xSt 5 h_4 (⟨b6, 0, none⟩ : Addr) [(.int .i64 x22_0), (.int .i64 x22_1), (.int .i64 x22_2), (.int .i64 x22_3), (.int .i64 x22_4)] fun h_5 =>
 oI .i64 (h_5.cell (((⟨b1, 0, none⟩ : Addr).add 2).add 0)) fun x25 =>
 xBlk (fun J_3 =>
 xIte (x25 == 4) (fun J_4 =>
 xDraw h_5 fun hs_1 =>
 oI .i64 (hs_1.cell ((⟨b6, 0, none⟩ : Addr).add 4)) fun x29 =>
 oI .i64 (hs_1.cell ((⟨b6, 0, none⟩ : Addr).add 0)) fun x31 =>
 xSc (x31 == 6) false (fun J_5 =>
 oI .i64 (hs_1.cell ((⟨b6, 0, none⟩ : Addr).add 0)) fun x35 =>
 xSc (x35 == 4) true (fun J_6 =>
 oI .i64 (hs_1.cell ((⟨b6, 0, none⟩ : Addr).add 4)) fun x39 =>
 J_6 (x39 != 0) h_5)
 (fun r41 h_6 =>
 J_5 r41 h_6) h_5)
 (fun r42 h_7 =>
 Q (.tuple #[(.int .i64 0), (.int .i64 x29), (.bool r42)]) h_7) h_5)
 (fun J_4 =>
 xIte (x25 == 5) (fun J_7 =>
 xDraw h_5 fun hs_2 =>
 oI .i64 (hs_2.cell ((⟨b6, 0, none⟩ : Addr).add 3)) fun x46 =>
 oI .i64 (hs_2.cell ((⟨b6, 0, none⟩ : Addr).add 4)) fun x48 =>
 oI .i64 (hs_2.cell ((⟨b6, 0, none⟩ : Addr).add 0)) fun x50 =>
 Q (.tuple #[(.int .i64 x46), (.int .i64 x48), (.bool (x50 == 8))]) h_5)
 (fun J_7 =>
 xIte (x25 == 6) (fun J_8 =>
 xDraw h_5 fun hs_3 =>
 oI .i64 (hs_3.cell ((⟨b6, 0, none⟩ : Addr).add 4)) fun x57 =>
 oI .i64 (hs_3.cell ((⟨b6, 0, none⟩ : Addr).add 0)) fun x59 =>
 Q (.tuple #[(.int .i64 (IntKind.wrap .i64 (((x8l : Nat) : Int) - 1))), (.int .i64 x57), (.bool (x59 == 9))]) h_5)
 (fun J_8 =>
 J_8 h_5)
 (fun  (h_8 : PH) =>
 J_7 h_8))
 (fun  (h_9 : PH) =>
 J_4 h_9))
 (fun  (h_10 : PH) =>
 J_3 h_10))
 (fun  (h_11 : PH) =>
 xDraw h_11 fun hs_4 =>
 oI .i64 (hs_4.cell (((⟨b1, 0, none⟩ : Addr).add 2).add 0)) fun x63 =>
 oI .i64 (hs_4.cell ((⟨b6, 0, none⟩ : Addr).add 0)) fun x64_0 =>
 oI .i64 (hs_4.cell ((⟨b6, 0, none⟩ : Addr).add 1)) fun x64_1 =>
 oI .i64 (hs_4.cell ((⟨b6, 0, none⟩ : Addr).add 2)) fun x64_2 =>
 oI .i64 (hs_4.cell ((⟨b6, 0, none⟩ : Addr).add 3)) fun x64_3 =>
 oI .i64 (hs_4.cell ((⟨b6, 0, none⟩ : Addr).add 4)) fun x64_4 =>
 oI .i64 (hs_4.cell ((⟨b6, 0, none⟩ : Addr).add 4)) fun x67 =>
 Meets Try.prog 98 #[(.int .i64 x63), (.agg #[(.int .i64 x64_0), (.int .i64 x64_1), (.int .i64 x64_2), (.int .i64 x64_3), (.int .i64 x64_4)])] h_11 fun v65 h_12 =>
 oI .i64 (some v65) fun x65 =>
 PH.le hs_4 h_12 ∧
 Q (.tuple #[(.int .i64 x65), (.int .i64 x67), (.bool true)]) h_12))) h_1
theorem P_ref15_told_eq (a0_0 : Int) (a0_1 : Bool) (a0_2 : Int) (a0_3 : Int) (a0_4 : Int) (a0_5a : Option Addr) (a0_5l : Nat) (a0_5c : Nat) (h : PH) (Q : Value → PH → Prop) : dFn Try.prog Try.f68 A_ref15_told #[(.agg #[(.int .i64 a0_0), (.bool a0_1), (.int .i64 a0_2), (.int .i64 a0_3), (.int .i64 a0_4), (.slice a0_5a a0_5l a0_5c)])] h Q = P_ref15_told a0_0 a0_1 a0_2 a0_3 a0_4 a0_5a a0_5l a0_5c h Q := by kernel_rfl
theorem P_ref15_told_of {a0_0 : Int} {a0_1 : Bool} {a0_2 : Int} {a0_3 : Int} {a0_4 : Int} {a0_5a : Option Addr} {a0_5l : Nat} {a0_5c : Nat} {h : PH} {Q : Value → PH → Prop} (x : P_ref15_told a0_0 a0_1 a0_2 a0_3 a0_4 a0_5a a0_5l a0_5c h Q) : Meets Try.prog 68 #[(.agg #[(.int .i64 a0_0), (.bool a0_1), (.int .i64 a0_2), (.int .i64 a0_3), (.int .i64 a0_4), (.slice a0_5a a0_5l a0_5c)])] h Q :=
  spec_of Try.func68 mix (by kernel_rfl) ((P_ref15_told_eq a0_0 a0_1 a0_2 a0_3 a0_4 a0_5a a0_5l a0_5c h Q).symm ▸ x)
/-- futtock/futtockref15.own -/
def A_ref15_own : Ann := .seq (.leaf) (.seq (.leaf) (.leaf))
def P_ref15_own (a0 : Int) (h : PH) (Q : Value → PH → Prop) : Prop :=
 xNew h (.cells #[(.int .i64 0), (.int .i64 1), (.int .i64 2), (.int .i64 3), (.int .i64 6), (.int .i64 8), (.int .i64 9), (.int .i64 10), (.int .i64 11), (.int .i64 12)] 3 (0, 0)) fun b3 h_1 =>
 xIdx (some (⟨b3, 0, none⟩ : Addr)) 10 a0 1 fun x5 =>
 oI .i64 (h_1.cell x5) fun x6 =>
 Q (.int .i64 x6) h_1
theorem P_ref15_own_eq (a0 : Int) (h : PH) (Q : Value → PH → Prop) : dFn Try.prog Try.f97 A_ref15_own #[(.int .i64 a0)] h Q = P_ref15_own a0 h Q := by kernel_rfl
theorem P_ref15_own_of {a0 : Int} {h : PH} {Q : Value → PH → Prop} (x : P_ref15_own a0 h Q) : Meets Try.prog 97 #[(.int .i64 a0)] h Q :=
  spec_of Try.func97 mix (by kernel_rfl) ((P_ref15_own_eq a0 h Q).symm ▸ x)
/-- futtock/futtockref15.reply -/
def A_ref15_reply : Ann := .seq (.leaf) (.seq (.seq (.leaf) (.cond [] (.seq (.leaf) (.leaf)) (.leaf))) (.seq (.leaf) (.leaf)))
def P_ref15_reply (a0 : Int) (a1_0 : Int) (a1_1 : Int) (a1_2 : Int) (a1_3 : Int) (a1_4 : Int) (h : PH) (Q : Value → PH → Prop) : Prop :=
 xNew h (.cells #[(.int .i64 a1_0), (.int .i64 a1_1), (.int .i64 a1_2), (.int .i64 a1_3), (.int .i64 a1_4)] 29 (0, 0)) fun b3 h_1 =>
 xSc (a0 == 7) false (fun J_1 =>
 J_1 (a0 == 8) h_1)
 (fun r10 h_2 =>
 xIte r10 (fun J_2 =>
 oI .i64 (h_2.cell ((⟨b3, 0, none⟩ : Addr).add 3)) fun x12 =>
 Q (.int .i64 x12) h_2)
 (fun J_2 =>
 J_2 h_2)
 (fun  (h_3 : PH) =>
 Q (.int .i64 0) h_3)) h_1
theorem P_ref15_reply_eq (a0 : Int) (a1_0 : Int) (a1_1 : Int) (a1_2 : Int) (a1_3 : Int) (a1_4 : Int) (h : PH) (Q : Value → PH → Prop) : dFn Try.prog Try.f98 A_ref15_reply #[(.int .i64 a0), (.agg #[(.int .i64 a1_0), (.int .i64 a1_1), (.int .i64 a1_2), (.int .i64 a1_3), (.int .i64 a1_4)])] h Q = P_ref15_reply a0 a1_0 a1_1 a1_2 a1_3 a1_4 h Q := by kernel_rfl
theorem P_ref15_reply_of {a0 : Int} {a1_0 : Int} {a1_1 : Int} {a1_2 : Int} {a1_3 : Int} {a1_4 : Int} {h : PH} {Q : Value → PH → Prop} (x : P_ref15_reply a0 a1_0 a1_1 a1_2 a1_3 a1_4 h Q) : Meets Try.prog 98 #[(.int .i64 a0), (.agg #[(.int .i64 a1_0), (.int .i64 a1_1), (.int .i64 a1_2), (.int .i64 a1_3), (.int .i64 a1_4)])] h Q :=
  spec_of Try.func98 mix (by kernel_rfl) ((P_ref15_reply_eq a0 a1_0 a1_1 a1_2 a1_3 a1_4 h Q).symm ▸ x)
end Go.Proofs.Ytnnedfhpicdacaa

/-
  The document's log: its small functions.
-/
set_option linter.unusedSimpArgs false
set_option linter.unusedVariables false
namespace Go.Gh
open Go Go.Sx Go.Md Go.Proofs Go.Proofs.Ytnnedfhpicdacaa

theorem meets_own {h : PH} (k : Int) (hk : 0 ≤ k ∧ k ≤ 9) : Meets Try.prog 97 #[.int .i64 k] h fun v h' => v = .int .i64 (commitOf k) ∧ h' = h := by
  apply Meets.same
  apply P_ref15_own_of
  unfold P_ref15_own
  refine xNew_intro fun b h1 l1 nb e1 => ?_
  refine ⟨_, rfl, by omega, by omega, ?_⟩
  have cases10 : k = 0 ∨ k = 1 ∨ k = 2 ∨ k = 3 ∨ k = 4 ∨ k = 5 ∨ k = 6 ∨ k = 7 ∨ k = 8 ∨ k = 9 := by omega
  rcases cases10 with rfl | rfl | rfl | rfl | rfl | rfl | rfl | rfl | rfl | rfl <;> exact ⟨_, (cellAdd e1).trans rfl, rfl, l1⟩
theorem meets_reply {h : PH} (k : Int) (e : Ev) : Meets Try.prog 98 #[.int .i64 k, .agg #[.int .i64 e.kind, .int .i64 e.thread, .int .i64 e.obj, .int .i64 e.arg, .int .i64 e.err]] h fun v h' => v = .int .i64 (if k = 7 ∨ k = 8 then e.arg else 0) ∧ h' = h := by
  apply Meets.same
  apply P_ref15_reply_of
  unfold P_ref15_reply
  refine xNew_intro fun b h1 l1 nb e1 => ?_
  refine xSc_or (k == 8) (fun _ J hJ => hJ) ⟨fun hc => ?_, fun hc => ?_⟩
  · have hc : k = 7 ∨ k = 8 := by simpa using hc
    have c3 : h1.cell ((⟨b, 0, none⟩ : Addr).add 3) = some (.int .i64 e.arg) := by rw [cellAdd e1]; rfl
    simp only [c3, oI_some]
    exact ⟨by rw [if_pos hc], l1⟩
  · have hc : ¬(k = 7 ∨ k = 8) := by simpa using hc
    exact ⟨by rw [if_neg hc], l1⟩

theorem meets_may15 {h : PH} (o : Oq) (threads objects : Int) : Meets Try.prog 66 #[.agg #[.int .i64 o.kind, .int .i64 o.obj, .int .i64 o.arg], .int .i64 threads, .int .i64 objects] h fun v h' => v = .bool (mayOp objects threads o) ∧ h' = h := by
  apply Meets.same
  apply P_ref15_may_of
  unfold P_ref15_may
  refine xNew_intro fun b h1 l1 nb e1 => ?_
  have c0 : h1.cell ((⟨b, 0, none⟩ : Addr).add 0) = some (.int .i64 o.kind) := by rw [cellAdd e1]; rfl
  have c1 : h1.cell ((⟨b, 0, none⟩ : Addr).add 1) = some (.int .i64 o.obj) := by rw [cellAdd e1]; rfl
  have c2 : h1.cell ((⟨b, 0, none⟩ : Addr).add 2) = some (.int .i64 o.arg) := by rw [cellAdd e1]; rfl
  simp only [c0, oI_some]
  refine xSc_or (decide (o.kind > 9)) (fun _ J hJ => by first | exact hJ | (simp only [c0, oI_some]; exact hJ)) ?_
  refine xSc_or (decide (o.obj < 0)) (fun _ J hJ => by simp only [c1, oI_some]; exact hJ) ?_
  refine xSc_or (decide (o.obj ≥ objects)) (fun _ J hJ => by simp only [c1, oI_some]; exact hJ) ?_
  refine xSc_or (decide (o.arg < 0)) (fun _ J hJ => by simp only [c2, oI_some]; exact hJ) ?_
  have hcm : (decide (o.kind < 1) || decide (o.kind > 9)) = (commitOf o.kind == 0) := by
    rw [Bool.eq_iff_iff]
    unfold commitOf
    simp only [Bool.or_eq_true, decide_eq_true_eq, beq_iff_eq]
    by_cases k1 : o.kind = 1
    · rw [if_pos k1]; omega
    rw [if_neg k1]
    by_cases k1 : o.kind = 2
    · rw [if_pos k1]; omega
    rw [if_neg k1]
    by_cases k1 : o.kind = 3
    · rw [if_pos k1]; omega
    rw [if_neg k1]
    by_cases k1 : o.kind = 4
    · rw [if_pos k1]; omega
    rw [if_neg k1]
    by_cases k1 : o.kind = 5
    · rw [if_pos k1]; omega
    rw [if_neg k1]
    by_cases k1 : o.kind = 6
    · rw [if_pos k1]; omega
    rw [if_neg k1]
    by_cases k1 : o.kind = 7
    · rw [if_pos k1]; omega
    rw [if_neg k1]
    by_cases k1 : o.kind = 8
    · rw [if_pos k1]; omega
    rw [if_neg k1]
    by_cases k1 : o.kind = 9
    · rw [if_pos k1]; omega
    rw [if_neg k1]; omega
  rw [hcm]
  refine ⟨fun hc => ?_, fun hc => ?_⟩
  · exact ⟨by unfold mayOp; rw [if_pos hc], l1⟩
  have hc' : ¬(commitOf o.kind == 0 || decide (o.obj < 0) || decide (o.obj ≥ objects) || decide (o.arg < 0)) = true := by rw [hc]; simp
  simp only [c0, oI_some]
  refine ⟨fun h9 => ?_, fun h9 => ?_⟩
  · have h9 := beq_iff_eq.1 h9
    simp only [c2, oI_some]
    exact ⟨by unfold mayOp; rw [if_neg hc', if_pos h9], l1⟩
  have h9 : o.kind ≠ 9 := by simpa using h9
  try simp only [c0, oI_some]
  refine xSc_or (o.arg == 0) (fun _ J hJ => by first | exact hJ | (simp only [c2, oI_some]; exact hJ)) ⟨?_, l1⟩
  unfold mayOp
  rw [if_neg hc', if_neg h9]
  by_cases h4 : o.kind = 4
  · rw [if_pos h4]; simp [h4]
  · rw [if_neg h4]; simp [h4]

theorem exists_cons {α : Type} {n : Nat} (l : List α) (h : l.length = n + 1) : ∃ a r, l = a :: r := by
  cases l with
  | nil => cases h
  | cons a r => exact ⟨a, r, rfl⟩
set_option maxHeartbeats 1000000 in
theorem meets_bare {h : PH} (e : En) : Meets Try.prog 65 #[enV e] h fun v h' => v = .bool e.bare ∧ h' = h := by
  apply Meets.same
  apply P_ref15_bare_of
  unfold P_ref15_bare
  refine xNew_intro fun b h1 l1 nb e1 => ?_
  refine xNew_intro fun b3 h2 l2 n3 e3 => ?_
  have q : b ≠ b3 := ne_of_known e1 n3
  have f1 := l2 _ _ e1
  have c : ∀ {h' : PH} {k : Nat}, h' b = h2 b → h'.cell ((⟨b, 0, none⟩ : Addr).add k) = (enL e)[k]? := fun {h' k} eq => by rw [cellAdd (eq.trans f1), Nat.zero_add]; exact List.getElem?_toArray
  have fin : ∀ (xs : List Int) (h' : PH), xs.length = 13 → (xs = enI e ↔ e.bare = true) → h.le h' → xEq Try.prog 88 (.agg (xs.map (Value.int .i64)).toArray) (.agg ((enI e).map (Value.int .i64)).toArray) (fun r => (Value.bool r = .bool e.bare ∧ h.le h')) := by
    intro xs h' hx hi l
    obtain ⟨r, law, hr⟩ := eqLaw_list (P := Try.prog) (t := 88) 13 30 (by kernel_rfl) xs (enI e) hx rfl
    refine ⟨r, law, ?_, l⟩
    congr 1
    rw [Bool.eq_iff_iff, hr, hi]
  have k0 : h2.cell ((⟨b, 0, none⟩ : Addr).add 0) = some (.int .i64 e.kind) := c rfl
  simp only [k0, oI_some]
  refine xBlk_split (fun h' => h.le h' ∧ h' b = h2 b ∧ ∃ xs : List Int, xs.length = 13 ∧ (xs = enI e ↔ e.bare = true) ∧ h' b3 = some (.cells (xs.map (Value.int .i64)).toArray 88 (0, 0))) ?_ fun K hK => ?_
  · rintro h' ⟨lh, eb, xs, hx, hi, e3'⟩
    have d : ∀ {k : Nat}, h'.cell ((⟨b3, 0, none⟩ : Addr).add k) = (xs.map (Value.int .i64))[k]? := fun {k} => by rw [cellAdd e3', Nat.zero_add]; exact List.getElem?_toArray
    have g := fin xs h' hx hi lh
    clear hi e3'
    obtain ⟨x0, r0, rfl⟩ := exists_cons xs (show xs.length = 12 + 1 from by simpa using hx)
    have hx : r0.length = 12 := by simpa using hx
    obtain ⟨x1, r1, rfl⟩ := exists_cons r0 (show r0.length = 11 + 1 from by simpa using hx)
    have hx : r1.length = 11 := by simpa using hx
    obtain ⟨x2, r2, rfl⟩ := exists_cons r1 (show r1.length = 10 + 1 from by simpa using hx)
    have hx : r2.length = 10 := by simpa using hx
    obtain ⟨x3, r3, rfl⟩ := exists_cons r2 (show r2.length = 9 + 1 from by simpa using hx)
    have hx : r3.length = 9 := by simpa using hx
    obtain ⟨x4, r4, rfl⟩ := exists_cons r3 (show r3.length = 8 + 1 from by simpa using hx)
    have hx : r4.length = 8 := by simpa using hx
    obtain ⟨x5, r5, rfl⟩ := exists_cons r4 (show r4.length = 7 + 1 from by simpa using hx)
    have hx : r5.length = 7 := by simpa using hx
    obtain ⟨x6, r6, rfl⟩ := exists_cons r5 (show r5.length = 6 + 1 from by simpa using hx)
    have hx : r6.length = 6 := by simpa using hx
    obtain ⟨x7, r7, rfl⟩ := exists_cons r6 (show r6.length = 5 + 1 from by simpa using hx)
    have hx : r7.length = 5 := by simpa using hx
    obtain ⟨x8, r8, rfl⟩ := exists_cons r7 (show r7.length = 4 + 1 from by simpa using hx)
    have hx : r8.length = 4 := by simpa using hx
    obtain ⟨x9, r9, rfl⟩ := exists_cons r8 (show r8.length = 3 + 1 from by simpa using hx)
    have hx : r9.length = 3 := by simpa using hx
    obtain ⟨x10, r10, rfl⟩ := exists_cons r9 (show r9.length = 2 + 1 from by simpa using hx)
    have hx : r10.length = 2 := by simpa using hx
    obtain ⟨x11, r11, rfl⟩ := exists_cons r10 (show r10.length = 1 + 1 from by simpa using hx)
    have hx : r11.length = 1 := by simpa using hx
    obtain ⟨x12, r12, rfl⟩ := exists_cons r11 (show r11.length = 0 + 1 from by simpa using hx)
    have hx : r12.length = 0 := by simpa using hx
    obtain rfl := List.eq_nil_of_length_eq_zero hx
    simp only [d, c eb, List.map_cons, List.map_nil, List.getElem?_cons_zero, List.getElem?_cons_succ, oI_some, enL]
    exact g
  have rd : ∀ {k : Nat}, h2.cell ((⟨b, 0, none⟩ : Addr).add k) = (enL e)[k]? := fun {k} => c rfl
  have rd2 : ∀ {i k : Nat}, h2.cell (((⟨b, 0, none⟩ : Addr).add i).add k) = (enL e)[i + k]? := fun {i k} => by
    rw [add_mk, add_mk, Nat.zero_add, cellAt f1]; exact List.getElem?_toArray
  have lh := PH.le_trans l1 l2
  have put : ∀ (xs : List Int), xs.length = 13 → (xs = enI e ↔ e.bare = true) → xSt 13 h2 ⟨b3, 0, none⟩ (xs.map (Value.int .i64)) K := by
    intro xs hx hi
    refine xSt_mk e3 (by simpa using hx) (by decide) (by simp [oneCell]) (by simp) ?_
    have : setN #[(.int .i64 0), (.int .i64 0), (.int .i64 0), (.int .i64 0), (.int .i64 0), (.int .i64 0), (.int .i64 0), (.int .i64 0), (.int .i64 0), (.int .i64 0), (.int .i64 0), (.int .i64 0), (.int .i64 0)] 0 (xs.map (Value.int .i64)) = (xs.map (Value.int .i64)).toArray := by
      exact setN_all [(.int .i64 0), (.int .i64 0), (.int .i64 0), (.int .i64 0), (.int .i64 0), (.int .i64 0), (.int .i64 0), (.int .i64 0), (.int .i64 0), (.int .i64 0), (.int .i64 0), (.int .i64 0), (.int .i64 0)] (xs.map (Value.int .i64)) (by simp [hx])
    rw [this]
    exact hK _ ⟨upd_le_upd (none_of l1 n3) lh, PH.upd_ne _ _ q, xs, hx, hi, PH.upd_same _ _ _⟩
  refine ⟨fun hc => ?_, fun hc => ?_⟩
  · have hc := beq_iff_eq.1 hc
    simp only [rd, rd2, enL, List.getElem?_cons_zero, List.getElem?_cons_succ, oI_some]
    have := put [e.kind, e.thread, e.number, e.op.kind, e.op.obj, e.op.arg, 0, 0, 0, 0, 0, 0, 0] rfl (bare1 e hc)
    rw [hc] at this
    exact this
  have h1 : e.kind ≠ 1 := by simpa using hc
  refine ⟨fun hc => ?_, fun hc => ?_⟩
  · have hc := beq_iff_eq.1 hc
    simp only [rd, rd2, enL, List.getElem?_cons_zero, List.getElem?_cons_succ, oI_some]
    have := put [e.kind, e.event.thread, 0, 0, 0, 0, e.event.kind, e.event.thread, e.event.obj, e.event.arg, e.event.err, 0, 0] rfl (bare2 e hc)
    rw [hc] at this
    exact this
  have h2 : e.kind ≠ 2 := by simpa using hc
  refine ⟨fun hc => ?_, fun hc => ?_⟩
  · have hc := beq_iff_eq.1 hc
    simp only [rd, rd2, enL, List.getElem?_cons_zero, List.getElem?_cons_succ, oI_some]
    have := put [e.kind, e.thread, e.number, 0, 0, 0, 0, 0, 0, 0, 0, e.value, e.err] rfl (bare3 e hc)
    rw [hc] at this
    exact this
  have h3 : e.kind ≠ 3 := by simpa using hc
  exact ⟨by unfold En.bare; rw [if_neg h1, if_neg h2, if_neg h3], lh⟩

end Go.Gh

/-
  The document's model as plain values; that it goes with the program's.
-/
set_option linter.unusedSimpArgs false
set_option linter.unusedVariables false
namespace Go.Rf
open Go Go.Md

structure Pc where
  waits : Int
  left : Int
  why : Int
def pc0 : Pc := ⟨0, 0, 0⟩
structure Rm where
  n : Int
  m : Int
  most : Int
  owner : List Int
  count : List Int
  hash : List Int
  flag : List Bool
  pl : List Pc
structure Rm.Wf (R : Rm) : Prop where
  o : R.owner.length = 8
  c : R.count.length = 8
  h : R.hash.length = 8
  f : R.flag.length = 8
  p : R.pl.length = 64

namespace Rm
def ow (R : Rm) (o : Int) : Int := R.owner.getD o.toNat 0
def ct (R : Rm) (o : Int) : Int := R.count.getD o.toNat 0
def hs (R : Rm) (o : Int) : Int := R.hash.getD o.toNat 0
def fl (R : Rm) (t : Int) : Bool := R.flag.getD t.toNat false
def at' (R : Rm) (o t : Int) : Pc := R.pl.getD (o.toNat * 8 + t.toNat) pc0
def setOw (R : Rm) (o v : Int) : Rm := { R with owner := R.owner.set o.toNat v }
def setCt (R : Rm) (o v : Int) : Rm := { R with count := R.count.set o.toNat v }
def setHs (R : Rm) (o v : Int) : Rm := { R with hash := R.hash.set o.toNat v }
def setFl (R : Rm) (t : Int) (b : Bool) : Rm := { R with flag := R.flag.set t.toNat b }
def setAt (R : Rm) (o t : Int) (p : Pc) : Rm := { R with pl := R.pl.set (o.toNat * 8 + t.toNat) p }
def is (R : Rm) (t : Int) : Bool := decide (t ≥ 0) && decide (t < R.n)
def none' (R : Rm) (o : Int) : Bool := (List.range R.n.toNat).all fun t => !decide ((R.at' o t).waits > 0)
def gone (R : Rm) (t : Int) : Bool := (List.range R.m.toNat).any fun o => decide ((R.at' o t).waits > 0) || decide ((R.at' o t).left > 0)
def w1 (t : Int) : Int := IntKind.wrap .i64 (t + 1)
def other (R : Rm) (e : Ev) : Bool := R.ow e.obj != 0 && R.ow e.obj != w1 e.thread
def enter (R : Rm) (e : Ev) : Rm × Bool :=
  if e.err = 0 then (if (R.other e || decide (R.ct e.obj ≥ R.most)) = true then (R, false) else ((R.setOw e.obj (w1 e.thread)).setCt e.obj (IntKind.wrap .i64 (R.ct e.obj + 1)), true))
  else if e.err = 10 then (R, R.ow e.obj == w1 e.thread && decide (R.ct e.obj ≥ R.most))
  else if e.err = 11 then (R, e.kind == 1 && R.other e)
  else if e.err = 14 then (R, e.kind == 2 && R.other e)
  else (R, false)
def owns (R : Rm) (e : Ev) : Bool := R.ow e.obj == w1 e.thread
def wait (R : Rm) (e : Ev) : Rm × Bool :=
  if e.kind = 4 then
    (if e.err = 9 then (R, !R.owns e)
     else if e.err = 12 then (if (R.owns e && R.fl e.thread) = true then (R.setFl e.thread false, true) else (R, false))
     else if e.err = 11 then (R, R.owns e)
     else if e.err = 0 then (if R.owns e = true then ((((R.setAt e.obj e.thread { R.at' e.obj e.thread with waits := R.ct e.obj }).setOw e.obj 0).setCt e.obj 0), true) else (R, false))
     else (R, false))
  else if e.kind = 5 then
    (if e.err = 13 ∨ e.err = 12 then (if ((R.at' e.obj e.thread).waits == 0 || e.err == 12 && !R.fl e.thread) = true then (R, false) else (R.setAt e.obj e.thread ⟨0, (R.at' e.obj e.thread).waits, e.err⟩, true))
     else (R, false))
  else if e.kind = 6 then
    (if e.err = 0 ∨ e.err = 13 ∨ e.err = 12 then (if (R.ow e.obj != 0 || (R.at' e.obj e.thread).left == 0 || (R.at' e.obj e.thread).why != e.err) = true then (R, false)
      else
        let R1 := ((R.setAt e.obj e.thread pc0).setOw e.obj (w1 e.thread)).setCt e.obj (R.at' e.obj e.thread).left
        (if e.err = 12 then R1.setFl e.thread false else R1, true))
     else (R, false))
  else (R, false)
def tell (R : Rm) (e : Ev) : Rm × Bool :=
  if e.kind = 7 then (if (e.err != 0 || !R.owns e || !R.is e.arg || (R.at' e.obj e.arg).waits == 0) = true then (R, false) else (R.setAt e.obj e.arg ⟨0, (R.at' e.obj e.arg).waits, 0⟩, true))
  else if e.kind = 8 ∧ e.err = 9 then (R, !R.owns e && e.arg == -1)
  else if e.kind = 8 ∧ e.err = 0 then (R, R.owns e && (R.is e.arg || e.arg == -1 && R.none' e.obj))
  else if e.kind = 9 ∧ e.err = 9 then (R, !R.owns e && e.arg == 0)
  else if e.kind = 9 ∧ e.err = 0 then (R, R.owns e && (e.arg == 0 && R.none' e.obj))
  else (R, false)
def ask (R : Rm) (e : Ev) : Rm × Bool :=
  if e.kind = 10 ∧ e.err = 11 then (R, R.ow e.obj != 0 && e.arg == 0)
  else if e.err ≠ 0 then (R, false)
  else if e.kind = 10 then
    (let R1 := if (R.hs e.obj == 0 && decide (e.arg ≥ 1) && decide (e.arg ≤ 2147483647)) = true then R.setHs e.obj e.arg else R
     (R1, R1.hs e.obj != 0 && R1.hs e.obj == e.arg))
  else if e.kind = 11 then (R, e.arg == if R.owns e = true then 1 else 0)
  else if R.is e.arg = true then (R.setFl e.arg true, true) else (R, false)
def may (R : Rm) (e : Ev) : Bool := !(!R.is e.thread || decide (e.obj < 0) || decide (e.obj ≥ R.m) || e.kind != 5 && e.kind != 6 && R.gone e.thread)
def act (R : Rm) (e : Ev) : Rm × Bool :=
  if e.kind = 1 ∨ e.kind = 2 then ((R.enter e).1, (R.enter e).2 && e.arg == 0)
  else if e.kind = 3 then
    (let ok := e.arg == 0 && (e.err == 0 && R.owns e || e.err == 9 && !R.owns e)
     (if (ok && e.err == 0) = true then
        (let R1 := R.setCt e.obj (IntKind.wrap .i64 (R.ct e.obj - 1))
         if R1.ct e.obj = 0 then R1.setOw e.obj 0 else R1)
      else R, ok))
  else if e.kind = 4 ∨ e.kind = 5 ∨ e.kind = 6 then (if (decide (e.err ≥ 0) && decide (e.err < 100)) = true then ((R.wait e).1, (R.wait e).2 && e.arg == 0) else (R, false))
  else if e.kind = 7 ∨ e.kind = 8 ∨ e.kind = 9 then R.tell e
  else if e.kind = 10 ∨ e.kind = 11 ∨ e.kind = 12 then R.ask e
  else (R, false)
/-- A transition of the document's model, and what it tells. -/
def apply (R : Rm) (e : Ev) : Rm × Int := if (!R.may e || !(R.act e).2) = true then (R, 15) else ((R.act e).1, 0)
end Rm
def Rm.new (n m most : Int) : Rm := ⟨n, m, most, List.replicate 8 0, List.replicate 8 0, List.replicate 8 0, List.replicate 8 false, List.replicate 64 pc0⟩

end Go.Rf

/-
  The document's model goes with the program's: what goes with what.
-/
set_option linter.unusedSimpArgs false
set_option linter.unusedVariables false
namespace Go.Rf
open Go Go.Md

theorem getD_set' {α : Type} (l : List α) (i j : Nat) (x d : α) (h : i < l.length) : (l.set i x).getD j d = if i = j then x else l.getD j d := by
  simp only [List.getD_eq_getElem?_getD, List.getElem?_set]
  by_cases e : i = j
  · subst e; simp [h]
  · simp [e]
theorem find_put {α : Type} (l : Pl α) (o t : Int) (v : α) (a b : Int) : (l.put o t v).find a b = if a = o ∧ b = t then some v else l.find a b := by
  unfold Pl.find
  induction l with
  | nil =>
    unfold Pl.put
    by_cases h : a = o ∧ b = t
    · rw [if_pos h, List.find?_cons_of_pos (by simp [h.1, h.2])]; rfl
    · rw [if_neg h, List.find?_cons_of_neg (by simp; intro h1 h2; exact h ⟨h1.symm, h2.symm⟩)]
  | cons p l ih =>
    unfold Pl.put
    by_cases hp : p.1 = o ∧ p.2.1 = t
    · rw [if_pos hp]
      by_cases h : a = o ∧ b = t
      · rw [if_pos h, List.find?_cons_of_pos (by simp [h.1, h.2])]; rfl
      · rw [if_neg h, List.find?_cons_of_neg (by simp; intro h1 h2; exact h ⟨h1.symm, h2.symm⟩)]
        rw [List.find?_cons_of_neg (by simp; intro h1 h2; exact h ⟨h1.symm.trans hp.1, h2.symm.trans hp.2⟩)]
    · rw [if_neg hp]
      by_cases h2 : (p.1 == a && p.2.1 == b) = true
      · simp only [List.find?_cons, h2]
        simp only [Bool.and_eq_true, beq_iff_eq] at h2
        rw [if_neg (fun h => hp ⟨h2.1.trans h.1, h2.2.trans h.2⟩)]
      · have h2 : (p.1 == a && p.2.1 == b) = false := by simpa using h2
        simp only [List.find?_cons, h2]
        exact ih
theorem find_none_of {α : Type} {l : Pl α} {o t : Int} (h : (o, t) ∉ l.map fun p => (p.1, p.2.1)) : l.find o t = none := by
  unfold Pl.find
  have : List.find? (fun p => p.1 == o && p.2.1 == t) l = none := by
    rw [List.find?_eq_none]
    intro p hp hc
    simp only [Bool.and_eq_true, beq_iff_eq] at hc
    exact h (List.mem_map.2 ⟨p, hp, by rw [hc.1, hc.2]⟩)
  rw [this]; rfl
theorem find_del {α : Type} {l : Pl α} (h : Pl.Once l) (o t a b : Int) : (l.del o t).find a b = if a = o ∧ b = t then none else l.find a b := by
  induction l with
  | nil => unfold Pl.del; by_cases e : a = o ∧ b = t <;> simp [e, Pl.find]
  | cons p l ih =>
    unfold Pl.Once at h
    simp only [List.map_cons, List.nodup_cons] at h
    unfold Pl.del
    by_cases hp : p.1 = o ∧ p.2.1 = t
    · rw [if_pos hp]
      by_cases e : a = o ∧ b = t
      · rw [if_pos e, e.1, e.2]
        exact find_none_of (by rw [← hp.1, ← hp.2]; exact h.1)
      · rw [if_neg e]
        unfold Pl.find
        rw [List.find?_cons_of_neg (by simp; intro h1 h2; exact e ⟨h1.symm.trans hp.1, h2.symm.trans hp.2⟩)]
    · rw [if_neg hp]
      have ih := ih h.2
      by_cases h2 : (p.1 == a && p.2.1 == b) = true
      · have h2' := h2
        simp only [Bool.and_eq_true, beq_iff_eq] at h2'
        rw [if_neg (fun hh => hp ⟨h2'.1.trans hh.1, h2'.2.trans hh.2⟩)]
        unfold Pl.find
        simp only [List.find?_cons, h2]
      · unfold Pl.find at ih ⊢
        have h2 : (p.1 == a && p.2.1 == b) = false := by simpa using h2
        simp only [List.find?_cons, h2]
        exact ih

/-- What is so of a model in order. -/
structure Good (s : Ms) : Prop where
  most : 1 ≤ s.most ∧ s.most ≤ 60
  own : ∀ o, s.isObj o = true → -1 ≤ (s.mon o).owner ∧ (s.mon o).owner < s.flags.length ∧ ((s.mon o).owner = -1 → (s.mon o).count = 0) ∧ ((s.mon o).owner ≠ -1 → 1 ≤ (s.mon o).count ∧ (s.mon o).count ≤ s.most) ∧ ((s.mon o).hash = 0 ∨ 1 ≤ (s.mon o).hash ∧ (s.mon o).hash ≤ 2147483647)
  wts : ∀ p ∈ s.waits, s.isObj p.1 = true ∧ s.isThread p.2.1 = true ∧ 1 ≤ p.2.2 ∧ p.2.2 ≤ s.most
  lfs : ∀ p ∈ s.left, s.isObj p.1 = true ∧ s.isThread p.2.1 = true ∧ 1 ≤ p.2.2.1 ∧ p.2.2.1 ≤ s.most
  ex : ∀ o t, s.waits.find o t ≠ none → s.left.find o t = none
structure Sim (R : Rm) (s : Ms) : Prop where
  wf : R.Wf
  ok : s.Ok
  g : Good s
  n : R.n = s.flags.length
  m : R.m = s.mons.length
  most : R.most = s.most
  ow : ∀ o, s.isObj o = true → R.ow o = (s.mon o).owner + 1
  ct : ∀ o, s.isObj o = true → R.ct o = (s.mon o).count
  hs : ∀ o, s.isObj o = true → R.hs o = (s.mon o).hash
  fl : ∀ t, s.isThread t = true → R.fl t = s.flag t
  wt : ∀ o t, s.isObj o = true → s.isThread t = true → (R.at' o t).waits = (s.waits.find o t).getD 0
  lf : ∀ o t, s.isObj o = true → s.isThread t = true → (R.at' o t).left = ((s.left.find o t).map (·.1)).getD 0
  wy : ∀ o t l, s.isObj o = true → s.isThread t = true → s.left.find o t = some l → (R.at' o t).why = l.2

theorem obj_lt {s : Ms} (k : s.Ok) {o : Int} (h : s.isObj o = true) : 0 ≤ o ∧ o.toNat < s.mons.length ∧ o.toNat < 8 := by
  have := k.nm
  simp only [Ms.isObj, Bool.and_eq_true, decide_eq_true_eq] at h
  omega
theorem thr_lt {s : Ms} (k : s.Ok) {t : Int} (h : s.isThread t = true) : 0 ≤ t ∧ t.toNat < s.flags.length ∧ t.toNat < 8 := by
  have := k.nf
  simp only [Ms.isThread, Bool.and_eq_true, decide_eq_true_eq] at h
  omega
theorem mon_set {s : Ms} {o x : Int} {m : Mo} (h : o.toNat < s.mons.length) (h0 : 0 ≤ o) (hx : 0 ≤ x) : (s.setMon o m).mon x = if x = o then m else s.mon x := by
  unfold Ms.mon Ms.setMon
  rw [getD_set' _ _ _ _ _ h]
  by_cases e : x = o
  · subst e; simp
  · rw [if_neg e, if_neg (by omega)]
theorem flag_set {s : Ms} {t x : Int} {b : Bool} (h : t.toNat < s.flags.length) (h0 : 0 ≤ t) (hx : 0 ≤ x) : (s.setFlag t b).flag x = if x = t then b else s.flag x := by
  unfold Ms.flag Ms.setFlag
  rw [getD_set' _ _ _ _ _ h]
  by_cases e : x = t
  · subst e; simp
  · rw [if_neg e, if_neg (by omega)]
theorem isObj_setMon (s : Ms) (o x : Int) (m : Mo) : (s.setMon o m).isObj x = s.isObj x := by simp [Ms.isObj, Ms.setMon]
theorem isThread_setMon (s : Ms) (o x : Int) (m : Mo) : (s.setMon o m).isThread x = s.isThread x := rfl
theorem isObj_setFlag (s : Ms) (o x : Int) (m : Bool) : (s.setFlag o m).isObj x = s.isObj x := rfl
theorem isThread_setFlag (s : Ms) (o x : Int) (m : Bool) : (s.setFlag o m).isThread x = s.isThread x := by simp [Ms.isThread, Ms.setFlag]

theorem ow_set {R : Rm} (w : R.Wf) {o x v : Int} (h0 : 0 ≤ o) (h8 : o.toNat < 8) (hx : 0 ≤ x) : (R.setOw o v).ow x = if x = o then v else R.ow x := by
  unfold Rm.ow Rm.setOw
  rw [getD_set' _ _ _ _ _ (by rw [w.o]; exact h8)]
  by_cases e : x = o
  · subst e; simp
  · rw [if_neg e, if_neg (by omega)]
theorem ct_set {R : Rm} (w : R.Wf) {o x v : Int} (h0 : 0 ≤ o) (h8 : o.toNat < 8) (hx : 0 ≤ x) : (R.setCt o v).ct x = if x = o then v else R.ct x := by
  unfold Rm.ct Rm.setCt
  rw [getD_set' _ _ _ _ _ (by rw [w.c]; exact h8)]
  by_cases e : x = o
  · subst e; simp
  · rw [if_neg e, if_neg (by omega)]
theorem hs_set {R : Rm} (w : R.Wf) {o x v : Int} (h0 : 0 ≤ o) (h8 : o.toNat < 8) (hx : 0 ≤ x) : (R.setHs o v).hs x = if x = o then v else R.hs x := by
  unfold Rm.hs Rm.setHs
  rw [getD_set' _ _ _ _ _ (by rw [w.h]; exact h8)]
  by_cases e : x = o
  · subst e; simp
  · rw [if_neg e, if_neg (by omega)]
theorem fl_set {R : Rm} (w : R.Wf) {t x : Int} {b : Bool} (h0 : 0 ≤ t) (h8 : t.toNat < 8) (hx : 0 ≤ x) : (R.setFl t b).fl x = if x = t then b else R.fl x := by
  unfold Rm.fl Rm.setFl
  rw [getD_set' _ _ _ _ _ (by rw [w.f]; exact h8)]
  by_cases e : x = t
  · subst e; simp
  · rw [if_neg e, if_neg (by omega)]
theorem at_set {R : Rm} (w : R.Wf) {o t x y : Int} {p : Pc} (h0 : 0 ≤ o) (h8 : o.toNat < 8) (t0 : 0 ≤ t) (t8 : t.toNat < 8) (hx : 0 ≤ x) (hy : 0 ≤ y) (y8 : y.toNat < 8) : (R.setAt o t p).at' x y = if x = o ∧ y = t then p else R.at' x y := by
  unfold Rm.at' Rm.setAt
  rw [getD_set' _ _ _ _ _ (by rw [w.p]; omega)]
  by_cases e : x = o ∧ y = t
  · rw [if_pos e, e.1, e.2]; simp
  · rw [if_neg e, if_neg (by omega)]
theorem Rm.Wf.setOw {R : Rm} (w : R.Wf) (o v : Int) : (R.setOw o v).Wf := ⟨by simp [Rm.setOw, w.o], w.c, w.h, w.f, w.p⟩
theorem Rm.Wf.setCt {R : Rm} (w : R.Wf) (o v : Int) : (R.setCt o v).Wf := ⟨w.o, by simp [Rm.setCt, w.c], w.h, w.f, w.p⟩
theorem Rm.Wf.setHs {R : Rm} (w : R.Wf) (o v : Int) : (R.setHs o v).Wf := ⟨w.o, w.c, by simp [Rm.setHs, w.h], w.f, w.p⟩
theorem Rm.Wf.setFl {R : Rm} (w : R.Wf) (o : Int) (v : Bool) : (R.setFl o v).Wf := ⟨w.o, w.c, w.h, by simp [Rm.setFl, w.f], w.p⟩
theorem Rm.Wf.setAt {R : Rm} (w : R.Wf) (o t : Int) (v : Pc) : (R.setAt o t v).Wf := ⟨w.o, w.c, w.h, w.f, by simp [Rm.setAt, w.p]⟩

/-- A monitor turns. -/
theorem sim_mon {R R' : Rm} {s : Ms} {o : Int} {m' : Mo} (S : Sim R s) (ok : (s.setMon o m').Ok) (ho : s.isObj o = true) (wf : R'.Wf) (hn : R'.n = R.n) (hm : R'.m = R.m) (hmost : R'.most = R.most) (hfl : R'.flag = R.flag) (hpl : R'.pl = R.pl)
    (ow' : ∀ x, 0 ≤ x → R'.ow x = if x = o then m'.owner + 1 else R.ow x) (ct' : ∀ x, 0 ≤ x → R'.ct x = if x = o then m'.count else R.ct x) (hs' : ∀ x, 0 ≤ x → R'.hs x = if x = o then m'.hash else R.hs x)
    (g : -1 ≤ m'.owner ∧ m'.owner < s.flags.length ∧ (m'.owner = -1 → m'.count = 0) ∧ (m'.owner ≠ -1 → 1 ≤ m'.count ∧ m'.count ≤ s.most) ∧ (m'.hash = 0 ∨ 1 ≤ m'.hash ∧ m'.hash ≤ 2147483647)) : Sim R' (s.setMon o m') := by
  obtain ⟨o0, o1, o8⟩ := obj_lt S.ok ho
  have mset := fun x (hx : 0 ≤ x) => mon_set (s := s) (m := m') o1 o0 hx
  refine ⟨wf, ok, ⟨S.g.most, ?_, ?_, ?_, S.g.ex⟩, hn.trans S.n, by rw [hm, S.m]; simp [Ms.setMon], hmost.trans S.most, ?_, ?_, ?_, ?_, ?_, ?_, ?_⟩
  · intro x hx
    rw [isObj_setMon] at hx
    obtain ⟨x0, x1, x8⟩ := obj_lt S.ok hx
    rw [mset x x0]
    split
    · exact g
    · exact S.g.own x hx
  · intro p hp
    rw [isObj_setMon, isThread_setMon]
    exact S.g.wts p hp
  · intro p hp
    rw [isObj_setMon, isThread_setMon]
    exact S.g.lfs p hp
  · intro x hx
    rw [isObj_setMon] at hx
    obtain ⟨x0, x1, x8⟩ := obj_lt S.ok hx
    rw [mset x x0, ow' x x0]
    split
    · rfl
    · exact S.ow x hx
  · intro x hx
    rw [isObj_setMon] at hx
    obtain ⟨x0, x1, x8⟩ := obj_lt S.ok hx
    rw [mset x x0, ct' x x0]
    split
    · rfl
    · exact S.ct x hx
  · intro x hx
    rw [isObj_setMon] at hx
    obtain ⟨x0, x1, x8⟩ := obj_lt S.ok hx
    rw [mset x x0, hs' x x0]
    split
    · rfl
    · exact S.hs x hx
  · intro t ht
    have : R'.fl t = R.fl t := by unfold Rm.fl; rw [hfl]
    rw [this]; exact S.fl t ht
  · intro x t hx ht
    rw [isObj_setMon] at hx
    have : R'.at' x t = R.at' x t := by unfold Rm.at'; rw [hpl]
    rw [this]; exact S.wt x t hx ht
  · intro x t hx ht
    rw [isObj_setMon] at hx
    have : R'.at' x t = R.at' x t := by unfold Rm.at'; rw [hpl]
    rw [this]; exact S.lf x t hx ht
  · intro x t l hx ht hl
    rw [isObj_setMon] at hx
    have : R'.at' x t = R.at' x t := by unfold Rm.at'; rw [hpl]
    rw [this]; exact S.wy x t l hx ht hl

theorem sim_flag {R : Rm} {s : Ms} {t : Int} {b : Bool} (S : Sim R s) (ht : s.isThread t = true) : Sim (R.setFl t b) (s.setFlag t b) := by
  obtain ⟨t0, t1, t8⟩ := thr_lt S.ok ht
  have fset := fun x (hx : 0 ≤ x) => flag_set (s := s) (b := b) t1 t0 hx
  refine ⟨S.wf.setFl t b, ⟨⟨S.ok.once.w, S.ok.once.l⟩, S.ok.why, S.ok.nm, by simp [Ms.setFlag]; exact S.ok.nf, S.ok.rw, S.ok.rl⟩, ⟨S.g.most, ?_, ?_, ?_, S.g.ex⟩, by simp [Ms.setFlag, Rm.setFl, S.n], S.m, S.most, S.ow, S.ct, S.hs, ?_, ?_, ?_, ?_⟩
  · intro o ho
    have := S.g.own o ho
    simpa [Ms.setFlag, Ms.mon] using this
  · intro p hp
    rw [isObj_setFlag, isThread_setFlag]; exact S.g.wts p hp
  · intro p hp
    rw [isObj_setFlag, isThread_setFlag]; exact S.g.lfs p hp
  · intro x hx
    rw [isThread_setFlag] at hx
    obtain ⟨x0, x1, x8⟩ := thr_lt S.ok hx
    rw [fset x x0, fl_set S.wf t0 t8 x0]
    split
    · rfl
    · exact S.fl x hx
  · intro o x ho hx
    rw [isThread_setFlag] at hx
    exact S.wt o x ho hx
  · intro o x ho hx
    rw [isThread_setFlag] at hx
    exact S.lf o x ho hx
  · intro o x l ho hx hl
    rw [isThread_setFlag] at hx
    exact S.wy o x l ho hx hl

end Go.Rf

/-
  The document's model in memory: 227 cells.
-/
set_option linter.unusedSimpArgs false
set_option linter.unusedVariables false
namespace Go.Rf
open Go Go.Md Go.Sx Go.Proofs

def pcC (p : Pc) : List Value := [.int .i64 p.waits, .int .i64 p.left, .int .i64 p.why]
theorem pcC_len (p : Pc) : (pcC p).length = 3 := rfl
def rm3 (R : Rm) : List Value := [.int .i64 R.n, .int .i64 R.m, .int .i64 R.most]
def iv (l : List Int) : List Value := l.map (Value.int .i64)
def bv (l : List Bool) : List Value := l.map Value.bool
def rmP (R : Rm) : List Value := (R.pl.map pcC).flatten ++ []
def rmL (R : Rm) : List Value := rm3 R ++ (iv R.owner ++ (iv R.count ++ (iv R.hash ++ (bv R.flag ++ rmP R))))
def rmA (R : Rm) : Array Value := (rmL R).toArray

theorem setW_iv (l : List Int) (i : Nat) (v : Int) : setW (iv l) i [.int .i64 v] = iv (l.set i v) := by simp [setW, iv, List.map_set]
theorem setW_bv (l : List Bool) (i : Nat) (v : Bool) : setW (bv l) i [.bool v] = bv (l.set i v) := by simp [setW, bv, List.map_set]
theorem iv_len (l : List Int) : (iv l).length = l.length := by simp [iv]
theorem bv_len (l : List Bool) : (bv l).length = l.length := by simp [bv]
section
variable {R : Rm} (w : R.Wf)
include w
theorem rmP_len : (rmP R).length = 192 := by unfold rmP; rw [List.append_nil, rec_len pcC_len, w.p]
theorem rmL_len : (rmL R).length = 227 := by
  unfold rmL; simp only [List.length_append, iv_len, bv_len, w.o, w.c, w.h, w.f, rmP_len w]; rfl
theorem rmA_size : (rmA R).size = 227 := by unfold rmA; rw [List.size_toArray, rmL_len w]
theorem rmL_at {i : Nat} : (rmL R)[i]? = if i < 3 then (rm3 R)[i]? else if i < 11 then (iv R.owner)[i - 3]? else if i < 19 then (iv R.count)[i - 11]? else if i < 27 then (iv R.hash)[i - 19]? else if i < 35 then (bv R.flag)[i - 27]? else (rmP R)[i - 35]? := by
  have l3 : (rm3 R).length = 3 := rfl
  have lo : (iv R.owner).length = 8 := by rw [iv_len, w.o]
  have lc : (iv R.count).length = 8 := by rw [iv_len, w.c]
  have lh : (iv R.hash).length = 8 := by rw [iv_len, w.h]
  have lf : (bv R.flag).length = 8 := by rw [bv_len, w.f]
  unfold rmL
  simp only [List.getElem?_append, l3, lo, lc, lh, lf]
  split
  · rfl
  rename_i h1
  by_cases h2 : i < 11
  · rw [if_pos (by omega), if_pos h2]
  rw [if_neg (by omega), if_neg h2]
  by_cases h3 : i < 19
  · rw [if_pos (by omega), if_pos h3, show i - 3 - 8 = i - 11 by omega]
  rw [if_neg (by omega), if_neg h3]
  by_cases h4 : i < 27
  · rw [if_pos (by omega), if_pos h4, show i - 3 - 8 - 8 = i - 19 by omega]
  rw [if_neg (by omega), if_neg h4]
  by_cases h5 : i < 35
  · rw [if_pos (by omega), if_pos h5, show i - 3 - 8 - 8 - 8 = i - 27 by omega]
  rw [if_neg (by omega), if_neg h5, show i - 3 - 8 - 8 - 8 - 8 = i - 35 by omega]
theorem rm_ow {o : Int} (h : o.toNat < 8) : (rmA R)[3 + o.toNat]? = some (.int .i64 (R.ow o)) := by
  unfold rmA; rw [List.getElem?_toArray, rmL_at w, if_neg (by omega), if_pos (by omega), show 3 + o.toNat - 3 = o.toNat by omega]
  simp only [iv, List.getElem?_map, List.getElem?_eq_getElem (show o.toNat < R.owner.length by rw [w.o]; exact h), Option.map_some, Rm.ow, List.getD_eq_getElem?_getD, Option.getD_some]
theorem rm_ct {o : Int} (h : o.toNat < 8) : (rmA R)[11 + o.toNat]? = some (.int .i64 (R.ct o)) := by
  unfold rmA; rw [List.getElem?_toArray, rmL_at w, if_neg (by omega), if_neg (by omega), if_pos (by omega), show 11 + o.toNat - 11 = o.toNat by omega]
  simp only [iv, List.getElem?_map, List.getElem?_eq_getElem (show o.toNat < R.count.length by rw [w.c]; exact h), Option.map_some, Rm.ct, List.getD_eq_getElem?_getD, Option.getD_some]
theorem rm_hs {o : Int} (h : o.toNat < 8) : (rmA R)[19 + o.toNat]? = some (.int .i64 (R.hs o)) := by
  unfold rmA; rw [List.getElem?_toArray, rmL_at w, if_neg (by omega), if_neg (by omega), if_neg (by omega), if_pos (by omega), show 19 + o.toNat - 19 = o.toNat by omega]
  simp only [iv, List.getElem?_map, List.getElem?_eq_getElem (show o.toNat < R.hash.length by rw [w.h]; exact h), Option.map_some, Rm.hs, List.getD_eq_getElem?_getD, Option.getD_some]
theorem rm_fl {o : Int} (h : o.toNat < 8) : (rmA R)[27 + o.toNat]? = some (.bool (R.fl o)) := by
  unfold rmA; rw [List.getElem?_toArray, rmL_at w, if_neg (by omega), if_neg (by omega), if_neg (by omega), if_neg (by omega), if_pos (by omega), show 27 + o.toNat - 27 = o.toNat by omega]
  simp only [bv, List.getElem?_map, List.getElem?_eq_getElem (show o.toNat < R.flag.length by rw [w.f]; exact h), Option.map_some, Rm.fl, List.getD_eq_getElem?_getD, Option.getD_some]
theorem rm_at {o t : Int} (h : o.toNat < 8) (ht : t.toNat < 8) (k : Nat) (hk : k < 3) : (rmA R)[35 + o.toNat * 24 + t.toNat * 3 + k]? = (pcC (R.at' o t))[k]? := by
  have hp : R.pl[o.toNat * 8 + t.toNat]? = some (R.at' o t) := by
    unfold Rm.at'
    rw [List.getD_eq_getElem?_getD, List.getElem?_eq_getElem (by rw [w.p]; omega)]; rfl
  have := rec_get (enc := pcC) pcC_len (junk := []) (R.at' o t) hp k hk
  unfold recArr at this
  unfold rmA; rw [List.getElem?_toArray, rmL_at w, if_neg (by omega), if_neg (by omega), if_neg (by omega), if_neg (by omega), if_neg (by omega), show 35 + o.toNat * 24 + t.toNat * 3 + k - 35 = (o.toNat * 8 + t.toNat) * 3 + k by omega]
  rw [List.getElem?_toArray] at this
  exact this

theorem set_ow {o v : Int} (h : o.toNat < 8) : setN (rmA R) (3 + o.toNat) [.int .i64 v] = rmA (R.setOw o v) := by
  unfold rmA; rw [setN_setW]; congr 1
  unfold rmL
  rw [show (3 : Nat) = (rm3 R).length from rfl, setW_skip, setW_front _ _ _ _ (by simp [iv_len, w.o]; omega), setW_iv]; rfl
theorem set_ct {o v : Int} (h : o.toNat < 8) : setN (rmA R) (11 + o.toNat) [.int .i64 v] = rmA (R.setCt o v) := by
  unfold rmA; rw [setN_setW]; congr 1
  unfold rmL
  have lo : (iv R.owner).length = 8 := by rw [iv_len, w.o]
  rw [show 11 + o.toNat = (rm3 R).length + ((iv R.owner).length + o.toNat) by rw [lo]; show _ = 3 + _; omega, setW_skip, setW_skip, setW_front _ _ _ _ (by simp [iv_len, w.c]; omega), setW_iv]; rfl
theorem set_hs {o v : Int} (h : o.toNat < 8) : setN (rmA R) (19 + o.toNat) [.int .i64 v] = rmA (R.setHs o v) := by
  unfold rmA; rw [setN_setW]; congr 1
  unfold rmL
  have lo : (iv R.owner).length = 8 := by rw [iv_len, w.o]
  have lc : (iv R.count).length = 8 := by rw [iv_len, w.c]
  rw [show 19 + o.toNat = (rm3 R).length + ((iv R.owner).length + ((iv R.count).length + o.toNat)) by rw [lo, lc]; show _ = 3 + _; omega, setW_skip, setW_skip, setW_skip, setW_front _ _ _ _ (by simp [iv_len, w.h]; omega), setW_iv]; rfl
theorem set_fl {o : Int} {v : Bool} (h : o.toNat < 8) : setN (rmA R) (27 + o.toNat) [.bool v] = rmA (R.setFl o v) := by
  unfold rmA; rw [setN_setW]; congr 1
  unfold rmL
  have lo : (iv R.owner).length = 8 := by rw [iv_len, w.o]
  have lc : (iv R.count).length = 8 := by rw [iv_len, w.c]
  have lh : (iv R.hash).length = 8 := by rw [iv_len, w.h]
  rw [show 27 + o.toNat = (rm3 R).length + ((iv R.owner).length + ((iv R.count).length + ((iv R.hash).length + o.toNat))) by rw [lo, lc, lh]; show _ = 3 + _; omega, setW_skip, setW_skip, setW_skip, setW_skip, setW_front _ _ _ _ (by simp [bv_len, w.f]; omega), setW_bv]; rfl
theorem set_at {o t : Int} (h : o.toNat < 8) (ht : t.toNat < 8) (q : Pc) (vs : List Value) (hq : setW (pcC (R.at' o t)) 0 vs = pcC q) (hv : vs.length ≤ 3) : setN (rmA R) (35 + o.toNat * 24 + t.toNat * 3) vs = rmA (R.setAt o t q) := by
  have hp : R.pl[o.toNat * 8 + t.toNat]? = some (R.at' o t) := by
    unfold Rm.at'
    rw [List.getD_eq_getElem?_getD, List.getElem?_eq_getElem (by rw [w.p]; omega)]; rfl
  have key := rec_set (enc := pcC) pcC_len (junk := []) (R.at' o t) q hp 0 vs hq (by omega)
  unfold recArr at key
  rw [setN_setW] at key
  have key := congrArg Array.toList key
  simp only [] at key
  unfold rmA; rw [setN_setW]; congr 1
  unfold rmL
  have lo : (iv R.owner).length = 8 := by rw [iv_len, w.o]
  have lc : (iv R.count).length = 8 := by rw [iv_len, w.c]
  have lh : (iv R.hash).length = 8 := by rw [iv_len, w.h]
  have lf : (bv R.flag).length = 8 := by rw [bv_len, w.f]
  rw [show 35 + o.toNat * 24 + t.toNat * 3 = (rm3 R).length + ((iv R.owner).length + ((iv R.count).length + ((iv R.hash).length + ((bv R.flag).length + ((o.toNat * 8 + t.toNat) * 3 + 0))))) by rw [lo, lc, lh, lf]; show _ = 3 + _; omega, setW_skip, setW_skip, setW_skip, setW_skip, setW_skip]
  show _ ++ (_ ++ (_ ++ (_ ++ (_ ++ setW (rmP R) _ vs)))) = _
  unfold rmP
  rw [key]; rfl
end

theorem one_rm (R : Rm) : ∀ v ∈ (rmA R).toList, oneCell v = true := by
  intro v hv
  have hv : v ∈ rmL R := by simpa [rmA] using hv
  unfold rmL rm3 iv bv rmP at hv
  simp only [List.mem_append, List.mem_cons, List.not_mem_nil, or_false, List.mem_map, List.mem_flatten] at hv
  rcases hv with (rfl | rfl | rfl) | ⟨x, _, rfl⟩ | ⟨x, _, rfl⟩ | ⟨x, _, rfl⟩ | ⟨x, _, rfl⟩ | ⟨l, ⟨p, _, rfl⟩, hv⟩ <;> try rfl
  simp only [pcC, List.mem_cons, List.not_mem_nil, or_false] at hv
  rcases hv with rfl | rfl | rfl <;> rfl

theorem xIdxA_eq {a : Addr} {len : Nat} {i : Int} {size : Nat} {K : Addr → Prop} (h : 0 ≤ i ∧ i < (len : Int)) : xIdxA a len i size K = K (a.add (i.toNat * size)) := propext ⟨fun x => x.2, fun x => ⟨h, x⟩⟩
theorem oBig_eq {h : PH} {b : Nat} {c : Array Value} {el : TypeId} {fz : Nat × Nat} {n : Nat} {K : Array Value → Prop} (hb : h b = some (.cells c el fz)) (hn : c.size = n) : oBig h ⟨b, 0, none⟩ n K = K c := by
  refine propext ⟨fun ⟨cs, h1, h2, h3⟩ => ?_, fun k => ⟨c, hn, fun i hi => by rw [add_mk, cellAt hb, Nat.zero_add], k⟩⟩
  have : cs = c := by
    apply Array.ext_getElem?
    intro i
    by_cases hi : i < n
    · have := h2 i hi
      rw [add_mk, cellAt hb, Nat.zero_add] at this
      exact this.symm
    · rw [Array.getElem?_eq_none (by omega), Array.getElem?_eq_none (by omega)]
  rw [← this]; exact h3
theorem xSt_all {h : PH} {b : Nat} {c : Array Value} {el : TypeId} {n : Nat} {vs : Array Value} {K : PH → Prop} (hb : h b = some (.cells c el (0, 0))) (hc : c.size = n) (hn : vs.size = n) (hz : n ≠ 0) (ho : ∀ v ∈ vs.toList, oneCell v = true) (k : K (h.upd b (.cells vs el (0, 0)))) : xSt n h ⟨b, 0, none⟩ vs.toList K := by
  refine xSt_mk hb (by simpa using hn) hz ho (by omega) ?_
  have : setN c 0 vs.toList = vs := by
    have := setN_all c.toList vs.toList (by simp [hc, hn])
    simpa using this
  rw [this]; exact k

/-- A model in a block. -/
structure Mx (R : Rm) (h : PH) (b2 : Nat) : Prop where
  m : h b2 = some (.cells (rmA R) 77 (0, 0))
  w : R.Wf
section
variable {h : PH} {b2 : Nat} {R : Rm} (f : Mx R h b2)
include f
theorem Mx.m0 : h.cell ((⟨b2, 0, none⟩ : Addr).add 0) = some (.int .i64 R.n) := by rw [cellAdd f.m]; rfl
theorem Mx.m1 : h.cell ((⟨b2, 0, none⟩ : Addr).add 1) = some (.int .i64 R.m) := by rw [cellAdd f.m]; rfl
theorem Mx.m2 : h.cell ((⟨b2, 0, none⟩ : Addr).add 2) = some (.int .i64 R.most) := by rw [cellAdd f.m]; rfl
theorem Mx.ow {o : Int} (ho : o.toNat < 8) : h.cell (((⟨b2, 0, none⟩ : Addr).add 3).add (o.toNat * 1)) = some (.int .i64 (R.ow o)) := by
  rw [add_mk, add_mk, cellAt f.m, Nat.zero_add, Nat.mul_one]; exact rm_ow f.w ho
theorem Mx.ct {o : Int} (ho : o.toNat < 8) : h.cell (((⟨b2, 0, none⟩ : Addr).add 11).add (o.toNat * 1)) = some (.int .i64 (R.ct o)) := by
  rw [add_mk, add_mk, cellAt f.m, Nat.zero_add, Nat.mul_one]; exact rm_ct f.w ho
theorem Mx.hs {o : Int} (ho : o.toNat < 8) : h.cell (((⟨b2, 0, none⟩ : Addr).add 19).add (o.toNat * 1)) = some (.int .i64 (R.hs o)) := by
  rw [add_mk, add_mk, cellAt f.m, Nat.zero_add, Nat.mul_one]; exact rm_hs f.w ho
theorem Mx.fl {o : Int} (ho : o.toNat < 8) : h.cell (((⟨b2, 0, none⟩ : Addr).add 27).add (o.toNat * 1)) = some (.bool (R.fl o)) := by
  rw [add_mk, add_mk, cellAt f.m, Nat.zero_add, Nat.mul_one]; exact rm_fl f.w ho
theorem Mx.p0 {o t : Int} (ho : o.toNat < 8) (ht : t.toNat < 8) : h.cell (((((⟨b2, 0, none⟩ : Addr).add 35).add (o.toNat * 24)).add (t.toNat * 3)).add 0) = some (.int .i64 (R.at' o t).waits) := by
  rw [add_mk, add_mk, add_mk, add_mk, cellAt f.m, Nat.zero_add]; exact rm_at f.w ho ht 0 (by omega)
theorem Mx.p1 {o t : Int} (ho : o.toNat < 8) (ht : t.toNat < 8) : h.cell (((((⟨b2, 0, none⟩ : Addr).add 35).add (o.toNat * 24)).add (t.toNat * 3)).add 1) = some (.int .i64 (R.at' o t).left) := by
  rw [add_mk, add_mk, add_mk, add_mk, cellAt f.m, Nat.zero_add]; exact rm_at f.w ho ht 1 (by omega)
theorem Mx.p2 {o t : Int} (ho : o.toNat < 8) (ht : t.toNat < 8) : h.cell (((((⟨b2, 0, none⟩ : Addr).add 35).add (o.toNat * 24)).add (t.toNat * 3)).add 2) = some (.int .i64 (R.at' o t).why) := by
  rw [add_mk, add_mk, add_mk, add_mk, cellAt f.m, Nat.zero_add]; exact rm_at f.w ho ht 2 (by omega)
theorem Mx.all {K : Array Value → Prop} : oBig h ⟨b2, 0, none⟩ 227 K = K (rmA R) := oBig_eq f.m (rmA_size f.w)
theorem Mx.le {h' : PH} (l : h.le h') : Mx R h' b2 := ⟨l _ _ f.m, f.w⟩
end

/-- A transition in a block. -/
structure Ex (e : Ev) (h : PH) (b3 : Nat) : Prop where
  e : h b3 = some (.cells #[.int .i64 e.kind, .int .i64 e.thread, .int .i64 e.obj, .int .i64 e.arg, .int .i64 e.err] 29 (0, 0))
section
variable {h : PH} {b3 : Nat} {e : Ev} (f : Ex e h b3)
include f
theorem Ex.e0 : h.cell ((⟨b3, 0, none⟩ : Addr).add 0) = some (.int .i64 e.kind) := by rw [cellAdd f.e]; rfl
theorem Ex.e1 : h.cell ((⟨b3, 0, none⟩ : Addr).add 1) = some (.int .i64 e.thread) := by rw [cellAdd f.e]; rfl
theorem Ex.e2 : h.cell ((⟨b3, 0, none⟩ : Addr).add 2) = some (.int .i64 e.obj) := by rw [cellAdd f.e]; rfl
theorem Ex.e3 : h.cell ((⟨b3, 0, none⟩ : Addr).add 3) = some (.int .i64 e.arg) := by rw [cellAdd f.e]; rfl
theorem Ex.e4 : h.cell ((⟨b3, 0, none⟩ : Addr).add 4) = some (.int .i64 e.err) := by rw [cellAdd f.e]; rfl
end

/-- What is known of a run of a method: the model, the transition, the place of the answer. -/
structure Fx (h0 : PH) (b2 b3 b4 : Nat) (R : Rm) (e : Ev) (h : PH) : Prop where
  m : h b2 = some (.cells (rmA R) 77 (0, 0))
  e : h b3 = some (.cells #[.int .i64 e.kind, .int .i64 e.thread, .int .i64 e.obj, .int .i64 e.arg, .int .i64 e.err] 29 (0, 0))
  o : ∃ c : Array Value, c.size = 227 ∧ h b4 = some (.cells c 77 (0, 0))
  n2 : h0 b2 = none
  n4 : h0 b4 = none
  d23 : b2 ≠ b3
  d24 : b2 ≠ b4
  d34 : b3 ≠ b4
  l : h0.le h
  w : R.Wf

theorem zero_size : (zeroC Try.prog 77).size = 227 := by kernel_rfl

theorem Fx.start {h : PH} {R : Rm} {e : Ev} (w : R.Wf) {K : Nat → Nat → Nat → PH → Prop} (k : ∀ b2 b3 b4 h', Fx h b2 b3 b4 R e h' → K b2 b3 b4 h') :
    xNew h (.cells (rmA R) 77 (0, 0)) fun b2 h1 => xNew h1 (.cells #[.int .i64 e.kind, .int .i64 e.thread, .int .i64 e.obj, .int .i64 e.arg, .int .i64 e.err] 29 (0, 0)) fun b3 h2 => xNew h2 (.cells (zeroC Try.prog 77) 77 (0, 0)) fun b4 h3 => K b2 b3 b4 h3 := by
  intro b2 n2 b3 n3 b4 n4
  obtain ⟨d23, n3⟩ := upd_none n3
  obtain ⟨d34, n4'⟩ := upd_none n4
  obtain ⟨d24, n4'⟩ := upd_none n4'
  refine k b2 b3 b4 _ ⟨?_, ?_, ⟨_, zero_size, PH.upd_same _ _ _⟩, n2, n4', d23, d24, d34, ?_, w⟩
  · rw [PH.upd_ne _ _ d24, PH.upd_ne _ _ d23, PH.upd_same]
  · rw [PH.upd_ne _ _ d34, PH.upd_same]
  · exact PH.le_trans (PH.le_upd n2) (PH.le_trans (PH.le_upd (by rw [PH.upd_ne _ _ (Ne.symm d23)]; exact n3)) (PH.le_upd n4))

section
variable {h0 h : PH} {b2 b3 b4 : Nat} {R : Rm} {e : Ev} (f : Fx h0 b2 b3 b4 R e h)
include f
theorem Fx.x : Mx R h b2 := ⟨f.m, f.w⟩
theorem Fx.y : Ex e h b3 := ⟨f.e⟩
theorem Fx.dx : Mx R (h.del b4) b2 := ⟨by rw [del_at, if_neg f.d24]; exact f.m, f.w⟩
theorem Fx.dy : Ex e (h.del b4) b3 := ⟨by rw [del_at, if_neg f.d34]; exact f.e⟩
/-- The answer is laid down. -/
theorem Fx.fin {R' : Rm} (w' : R'.Wf) {Q : Array Value → PH → Prop} (k : ∀ h', h0.le h' → Q (rmA R') h') : xSt 227 h ⟨b4, 0, none⟩ (rmA R').toList fun h' => oBig h' ⟨b4, 0, none⟩ 227 fun y => Q y h' := by
  obtain ⟨c, hc, ho⟩ := f.o
  refine xSt_all ho hc (rmA_size w') (by decide) (one_rm R') ?_
  rw [oBig_eq (PH.upd_same _ _ _) (rmA_size w')]
  exact k _ (upd_le_upd f.n4 f.l)
/-- .. where what was drawn goes ahead. -/
theorem Fx.finD {R' : Rm} (w' : R'.Wf) {g : PH} (lg : (g.del b4).le h) {Q : Array Value → PH → Prop} (k : ∀ h', h0.le h' → Q (rmA R') h') : xSt 227 h ⟨b4, 0, none⟩ (rmA R').toList fun h' => (g.del b4).le h' ∧ oBig h' ⟨b4, 0, none⟩ 227 fun y => Q y h' := by
  obtain ⟨c, hc, ho⟩ := f.o
  refine xSt_all ho hc (rmA_size w') (by decide) (one_rm R') ⟨PH.del_le_upd lg, ?_⟩
  rw [oBig_eq (PH.upd_same _ _ _) (rmA_size w')]
  exact k _ (upd_le_upd f.n4 f.l)
theorem Fx.put {R' : Rm} (w' : R'.Wf) : Fx h0 b2 b3 b4 R' e (h.upd b2 (.cells (rmA R') 77 (0, 0))) := by
  refine ⟨PH.upd_same _ _ _, by rw [PH.upd_ne _ _ (Ne.symm f.d23)]; exact f.e, ?_, f.n2, f.n4, f.d23, f.d24, f.d34, upd_le_upd f.n2 f.l, w'⟩
  obtain ⟨c, hc, ho⟩ := f.o
  exact ⟨c, hc, by rw [PH.upd_ne _ _ (Ne.symm f.d24)]; exact ho⟩
theorem Fx.le {h' : PH} (l : h.le h') : Fx h0 b2 b3 b4 R e h' := by
  obtain ⟨c, hc, ho⟩ := f.o
  exact ⟨l _ _ f.m, l _ _ f.e, ⟨c, hc, l _ _ ho⟩, f.n2, f.n4, f.d23, f.d24, f.d34, PH.le_trans f.l l, f.w⟩
variable {K : PH → Prop}
theorem Fx.sow {o v : Int} (ho : o.toNat < 8) (k : ∀ h', (∀ x, x ≠ b2 → h' x = h x) → Fx h0 b2 b3 b4 (R.setOw o v) e h' → K h') : xSt 1 h (((⟨b2, 0, none⟩ : Addr).add 3).add (o.toNat * 1)) [.int .i64 v] K := by
  rw [add_mk, add_mk, Nat.zero_add, Nat.mul_one]
  refine xSt_mk f.m rfl (by decide) (by simp [oneCell]) (by rw [rmA_size f.w]; omega) ?_
  rw [set_ow f.w ho]; exact k _ (fun x hx => PH.upd_ne _ _ hx) (f.put (f.w.setOw _ _))
theorem Fx.sct {o v : Int} (ho : o.toNat < 8) (k : ∀ h', (∀ x, x ≠ b2 → h' x = h x) → Fx h0 b2 b3 b4 (R.setCt o v) e h' → K h') : xSt 1 h (((⟨b2, 0, none⟩ : Addr).add 11).add (o.toNat * 1)) [.int .i64 v] K := by
  rw [add_mk, add_mk, Nat.zero_add, Nat.mul_one]
  refine xSt_mk f.m rfl (by decide) (by simp [oneCell]) (by rw [rmA_size f.w]; omega) ?_
  rw [set_ct f.w ho]; exact k _ (fun x hx => PH.upd_ne _ _ hx) (f.put (f.w.setCt _ _))
theorem Fx.shs {o v : Int} (ho : o.toNat < 8) (k : ∀ h', (∀ x, x ≠ b2 → h' x = h x) → Fx h0 b2 b3 b4 (R.setHs o v) e h' → K h') : xSt 1 h (((⟨b2, 0, none⟩ : Addr).add 19).add (o.toNat * 1)) [.int .i64 v] K := by
  rw [add_mk, add_mk, Nat.zero_add, Nat.mul_one]
  refine xSt_mk f.m rfl (by decide) (by simp [oneCell]) (by rw [rmA_size f.w]; omega) ?_
  rw [set_hs f.w ho]; exact k _ (fun x hx => PH.upd_ne _ _ hx) (f.put (f.w.setHs _ _))
theorem Fx.sfl {o : Int} {v : Bool} (ho : o.toNat < 8) (k : ∀ h', (∀ x, x ≠ b2 → h' x = h x) → Fx h0 b2 b3 b4 (R.setFl o v) e h' → K h') : xSt 1 h (((⟨b2, 0, none⟩ : Addr).add 27).add (o.toNat * 1)) [.bool v] K := by
  rw [add_mk, add_mk, Nat.zero_add, Nat.mul_one]
  refine xSt_mk f.m rfl (by decide) (by simp [oneCell]) (by rw [rmA_size f.w]; omega) ?_
  rw [set_fl f.w ho]; exact k _ (fun x hx => PH.upd_ne _ _ hx) (f.put (f.w.setFl _ _))
theorem Fx.sat {o t : Int} (ho : o.toNat < 8) (ht : t.toNat < 8) {v1 v2 v3 : Int} (k : ∀ h', (∀ x, x ≠ b2 → h' x = h x) → Fx h0 b2 b3 b4 (R.setAt o t ⟨v1, v2, v3⟩) e h' → K h') : xSt 3 h ((((⟨b2, 0, none⟩ : Addr).add 35).add (o.toNat * 24)).add (t.toNat * 3)) [.int .i64 v1, .int .i64 v2, .int .i64 v3] K := by
  rw [add_mk, add_mk, add_mk, Nat.zero_add]
  refine xSt_mk f.m rfl (by decide) (by simp [oneCell]) (by rw [rmA_size f.w]; omega) ?_
  rw [set_at f.w ho ht ⟨v1, v2, v3⟩ _ rfl (by simp)]; exact k _ (fun x hx => PH.upd_ne _ _ hx) (f.put (f.w.setAt _ _ _))
theorem Fx.swt {o t v : Int} (ho : o.toNat < 8) (ht : t.toNat < 8) (k : ∀ h', (∀ x, x ≠ b2 → h' x = h x) → Fx h0 b2 b3 b4 (R.setAt o t { R.at' o t with waits := v }) e h' → K h') : xSt 1 h (((((⟨b2, 0, none⟩ : Addr).add 35).add (o.toNat * 24)).add (t.toNat * 3)).add 0) [.int .i64 v] K := by
  rw [add_mk, add_mk, add_mk, add_mk, Nat.zero_add, Nat.add_zero]
  refine xSt_mk f.m rfl (by decide) (by simp [oneCell]) (by rw [rmA_size f.w]; omega) ?_
  rw [set_at f.w ho ht { R.at' o t with waits := v } _ rfl (by simp)]; exact k _ (fun x hx => PH.upd_ne _ _ hx) (f.put (f.w.setAt _ _ _))
end

end Go.Rf
