/- The readings of some functions, printed by a program of the session (wip/tools/sx.py): each by one equation that the kernel reckons. -/
import Derived.Test.YtnnedfhpicdacaaRows
import Derived.Laws.StructEq
import Derived.ChangeSlices
import Derived.ChangeShapes
import Derived.Below
import Derived.Test.YtnnedfhpicdacaaJG2

set_option linter.unusedVariables false
namespace Go.Proofs.Ytnnedfhpicdacaa
open Go Go.Sx Go.Proofs
/-- futtock/ghost.New -/
def A_ghost_New : Ann := .seq (.leaf) (.seq (.leaf) (.seq (.seq (.leaf) (.cond [] (.seq (.leaf) (.leaf)) (.leaf))) (.seq (.leaf) (.leaf))))
def P_ghost_New (a0 : Int) (a1 : Int) (a2 : Int) (h : PH) (Q : Value → PH → Prop) : Prop :=
 Meets Try.prog 11 #[(.int .i64 a0), (.int .i64 a1), (.int .i64 a2)] h fun v14 h_1 =>
 oTup v14 2 fun x14cs =>
 oIx x14cs[0]? fun x14w =>
 oP (some x14w) fun x14_0 =>
 oIx x14cs[1]? fun x14w_1 =>
 oI .i64 (some x14w_1) fun x14_1 =>
 oP (some (.pointer x14_0)) fun x15 =>
 oI .i64 (some (.int .i64 x14_1)) fun x16 =>
 xIte (x16 != 0) (fun J_1 =>
 Q (.tuple #[(.pointer none), (.int .i64 x16)]) h_1)
 (fun J_1 =>
 J_1 h_1)
 (fun  (h_2 : PH) =>
 xMake h_2 147 #[(.int .i64 0), (.int .i64 0), (.int .i64 0), (.int .i64 0), (.bool false), (.int .i64 0), (.int .i64 0), (.int .i64 0), (.int .i64 0), (.int .i64 0), (.int .i64 0)] 88 a0 a0 fun x23a x23l x23c h_3 =>
 xNew h_3 (.cells #[(.int .i64 a1), (.pointer x15), (.slice x23a x23l x23c), (.slice none 0 0)] 109 (0, 0)) fun b25 h_4 =>
 Q (.tuple #[(.pointer (some (⟨b25, 0, none⟩ : Addr))), (.int .i64 0)]) h_4)
theorem P_ghost_New_eq (a0 : Int) (a1 : Int) (a2 : Int) (h : PH) (Q : Value → PH → Prop) : dFn Try.prog Try.f39 A_ghost_New #[(.int .i64 a0), (.int .i64 a1), (.int .i64 a2)] h Q = P_ghost_New a0 a1 a2 h Q := by kernel_rfl
theorem P_ghost_New_of {a0 : Int} {a1 : Int} {a2 : Int} {h : PH} {Q : Value → PH → Prop} (x : P_ghost_New a0 a1 a2 h Q) : Meets Try.prog 39 #[(.int .i64 a0), (.int .i64 a1), (.int .i64 a2)] h Q :=
  spec_of Try.func39 mix (by kernel_rfl) ((P_ghost_New_eq a0 a1 a2 h Q).symm ▸ x)
/-- (*futtock/ghost.Log).Add -/
def A_ghost_Log_Add : Ann := .seq (.leaf) (.seq (.block [] (.seq (.leaf) (.cond [] (.seq (.leaf) (.leaf)) (.seq (.draw [(0, .flt), (1, .eff), (2, .flt), (3, .flt), (4, .flt), (5, .flt), (6, .flt), (7, .flt), (8, .flt), (9, .flt), (10, .flt), (11, .flt), (12, .flt), (13, .flt), (14, .flt), (15, .flt), (16, .flt), (17, .flt), (18, .flt)]) (.cond [] (.seq (.leaf) (.leaf)) (.leaf)))))) (.seq (.draw [(0, .flt), (1, .flt), (2, .flt), (3, .flt), (4, .flt), (5, .flt), (6, .flt), (7, .flt)]) (.seq (.seq (.leaf) (.block [] (.seq (.leaf) (.cond [] (.seq (.seq (.draw [(0, .flt), (1, .flt), (2, .flt), (3, .flt), (4, .flt), (5, .flt), (6, .flt), (7, .flt), (8, .flt), (9, .flt), (10, .flt), (11, .flt), (12, .flt), (13, .flt), (14, .flt), (15, .flt), (16, .flt), (17, .eff), (18, .flt), (19, .flt)]) (.cond [] (.seq (.leaf) (.leaf)) (.leaf))) (.draw [(0, .flt), (1, .flt), (2, .flt), (3, .flt), (4, .flt), (5, .flt), (6, .flt), (7, .flt), (8, .flt), (9, .flt), (10, .brk)])) (.seq (.leaf) (.cond [] (.seq (.seq (.draw [(0, .flt), (1, .flt), (2, .flt), (3, .flt), (4, .flt), (5, .eff), (6, .flt), (7, .flt), (8, .flt), (9, .flt), (10, .flt), (11, .flt), (12, .flt), (13, .flt), (14, .eff), (15, .flt), (16, .flt)]) (.cond [] (.seq (.leaf) (.leaf)) (.leaf))) (.seq (.leaf) (.leaf))) (.seq (.leaf) (.cond [] (.seq (.leaf) (.seq (.seq (.draw [(0, .flt), (1, .flt), (2, .flt), (3, .flt), (4, .flt), (5, .flt), (6, .flt), (7, .flt), (8, .flt), (9, .flt), (10, .flt), (11, .flt), (12, .flt), (13, .flt), (14, .flt), (15, .flt), (16, .flt), (17, .flt), (18, .flt), (19, .flt), (20, .flt), (21, .flt), (22, .flt), (23, .flt)]) (.cond [] (.seq (.leaf) (.leaf)) (.leaf))) (.leaf))) (.leaf))))))))) (.seq (.draw [(0, .flt), (1, .flt), (2, .flt), (3, .flt), (4, .flt), (5, .flt), (6, .eff), (7, .eff), (8, .brk), (9, .brk), (10, .brk)]) (.seq (.leaf) (.leaf))))))
def P_ghost_Log_Add (a0 : Option Addr) (a1_0 : Int) (a1_1 : Int) (a1_2 : Int) (a1_3 : Int) (a1_4 : Int) (a1_5 : Int) (a1_6 : Int) (a1_7 : Int) (a1_8 : Int) (a1_9 : Int) (a1_10 : Int) (a1_11 : Int) (a1_12 : Int) (h : PH) (Q : Value → PH → Prop) : Prop :=
 xNew h (.cells #[(.int .i64 a1_0), (.int .i64 a1_1), (.int .i64 a1_2), (.int .i64 a1_3), (.int .i64 a1_4), (.int .i64 a1_5), (.int .i64 a1_6), (.int .i64 a1_7), (.int .i64 a1_8), (.int .i64 a1_9), (.int .i64 a1_10), (.int .i64 a1_11), (.int .i64 a1_12)] 90 (0, 0)) fun b3 h_1 =>
 xBlk (fun J_1 =>
 Meets Try.prog 69 #[(.pointer a0)] h_1 fun v11 h_2 =>
 oB (some v11) fun x11 =>
 xIte (!x11) (fun J_2 =>
 Q (.int .i64 2) h_2)
 (fun J_2 =>
 xDraw h_2 fun hs_1 =>
 oI .i64 (hs_1.cell ((⟨b3, 0, none⟩ : Addr).add 0)) fun x14_0 =>
 oI .i64 (hs_1.cell ((⟨b3, 0, none⟩ : Addr).add 1)) fun x14_1 =>
 oI .i64 (hs_1.cell ((⟨b3, 0, none⟩ : Addr).add 2)) fun x14_2 =>
 oI .i64 (hs_1.cell ((⟨b3, 0, none⟩ : Addr).add 3)) fun x14_3 =>
 oI .i64 (hs_1.cell ((⟨b3, 0, none⟩ : Addr).add 4)) fun x14_4 =>
 oI .i64 (hs_1.cell ((⟨b3, 0, none⟩ : Addr).add 5)) fun x14_5 =>
 oI .i64 (hs_1.cell ((⟨b3, 0, none⟩ : Addr).add 6)) fun x14_6 =>
 oI .i64 (hs_1.cell ((⟨b3, 0, none⟩ : Addr).add 7)) fun x14_7 =>
 oI .i64 (hs_1.cell ((⟨b3, 0, none⟩ : Addr).add 8)) fun x14_8 =>
 oI .i64 (hs_1.cell ((⟨b3, 0, none⟩ : Addr).add 9)) fun x14_9 =>
 oI .i64 (hs_1.cell ((⟨b3, 0, none⟩ : Addr).add 10)) fun x14_10 =>
 oI .i64 (hs_1.cell ((⟨b3, 0, none⟩ : Addr).add 11)) fun x14_11 =>
 oI .i64 (hs_1.cell ((⟨b3, 0, none⟩ : Addr).add 12)) fun x14_12 =>
 Meets Try.prog 70 #[(.agg #[(.int .i64 x14_0), (.int .i64 x14_1), (.int .i64 x14_2), (.int .i64 x14_3), (.int .i64 x14_4), (.int .i64 x14_5), (.int .i64 x14_6), (.int .i64 x14_7), (.int .i64 x14_8), (.int .i64 x14_9), (.int .i64 x14_10), (.int .i64 x14_11), (.int .i64 x14_12)])] h_2 fun v15 h_3 =>
 oB (some v15) fun x15 =>
 PH.le hs_1 h_3 ∧
 xSc (!x15) false (fun J_3 =>
 oI .i64 (hs_1.cell ((⟨b3, 0, none⟩ : Addr).add 1)) fun x19 =>
 J_3 (decide ((x19 : Int) < 0)) h_3)
 (fun r21 h_4 =>
 xSc r21 false (fun J_4 =>
 oI .i64 (hs_1.cell ((⟨b3, 0, none⟩ : Addr).add 1)) fun x24 =>
 xNn a0 fun x26 =>
 oS (hs_1.cell (x26.add 2)) fun x28a x28l x28c =>
 J_4 (decide ((x24 : Int) ≥ ((x28l : Nat) : Int))) h_4)
 (fun r31 h_5 =>
 xIte r31 (fun J_5 =>
 Q (.int .i64 15) h_5)
 (fun J_5 =>
 J_5 h_5)
 (fun  (h_6 : PH) =>
 J_2 h_6)) h_4) h_3)
 (fun  (h_7 : PH) =>
 J_1 h_7))
 (fun  (h_8 : PH) =>
 xDraw h_8 fun hs_2 =>
 xNn a0 fun x33 =>
 oS (hs_2.cell (x33.add 2)) fun x35a x35l x35c =>
 oI .i64 (hs_2.cell ((⟨b3, 0, none⟩ : Addr).add 1)) fun x37 =>
 xIdx x35a x35l x37 11 fun x38 =>
 oI .i64 (h_8.cell ((⟨b3, 0, none⟩ : Addr).add 0)) fun x40 =>
 xBlk (fun J_6 =>
 xIte (x40 == 1) (fun J_7 =>
 xDraw h_8 fun hs_3 =>
 xNn (some x38) fun x44 =>
 oB (hs_3.cell (x44.add 4)) fun x46 =>
 xSc x46 false (fun J_8 =>
 oI .i64 (hs_3.cell ((⟨b3, 0, none⟩ : Addr).add 2)) fun x49 =>
 xNn (some x38) fun x51 =>
 oI .i64 (hs_3.cell (x51.add 3)) fun x53 =>
 J_8 (x49 != x53) h_8)
 (fun r55 h_9 =>
 xSc r55 false (fun J_9 =>
 oI .i64 (hs_3.cell (((⟨b3, 0, none⟩ : Addr).add 3).add 0)) fun x59_0 =>
 oI .i64 (hs_3.cell (((⟨b3, 0, none⟩ : Addr).add 3).add 1)) fun x59_1 =>
 oI .i64 (hs_3.cell (((⟨b3, 0, none⟩ : Addr).add 3).add 2)) fun x59_2 =>
 Meets Try.prog 71 #[(.pointer a0), (.agg #[(.int .i64 x59_0), (.int .i64 x59_1), (.int .i64 x59_2)])] h_9 fun v60 h_10 =>
 oB (some v60) fun x60 =>
 PH.le hs_3 h_10 ∧
 J_9 (!x60) h_10)
 (fun r62 h_11 =>
 xIte r62 (fun J_10 =>
 Q (.int .i64 15) h_11)
 (fun J_10 =>
 J_10 h_11)
 (fun  (h_12 : PH) =>
 xDraw h_12 fun hs_4 =>
 oI .i64 (hs_4.cell (((⟨b3, 0, none⟩ : Addr).add 3).add 0)) fun x65_0 =>
 oI .i64 (hs_4.cell (((⟨b3, 0, none⟩ : Addr).add 3).add 1)) fun x65_1 =>
 oI .i64 (hs_4.cell (((⟨b3, 0, none⟩ : Addr).add 3).add 2)) fun x65_2 =>
 xNn (some x38) fun x67 =>
 oI .i64 (hs_4.cell (x67.add 3)) fun x69 =>
 xNn (some x38) fun x72 =>
 xSt 11 h_12 x72 [(.int .i64 x65_0), (.int .i64 x65_1), (.int .i64 x65_2), (.int .i64 (IntKind.wrap .i64 (x69 + 1))), (.bool true), (.int .i64 0), (.int .i64 0), (.int .i64 0), (.int .i64 0), (.int .i64 0), (.int .i64 0)] fun h_13 =>
 J_7 h_13)) h_9) h_8)
 (fun J_7 =>
 xIte (x40 == 2) (fun J_11 =>
 xDraw h_8 fun hs_5 =>
 xNn (some x38) fun x76 =>
 oI .i64 (hs_5.cell (x76.add 0)) fun x77_0 =>
 oI .i64 (hs_5.cell (x76.add 1)) fun x77_1 =>
 oI .i64 (hs_5.cell (x76.add 2)) fun x77_2 =>
 oI .i64 (hs_5.cell (x76.add 3)) fun x77_3 =>
 oB (hs_5.cell (x76.add 4)) fun x77_4 =>
 oI .i64 (hs_5.cell (x76.add 5)) fun x77_5 =>
 oI .i64 (hs_5.cell (x76.add 6)) fun x77_6 =>
 oI .i64 (hs_5.cell (x76.add 7)) fun x77_7 =>
 oI .i64 (hs_5.cell (x76.add 8)) fun x77_8 =>
 oI .i64 (hs_5.cell (x76.add 9)) fun x77_9 =>
 oI .i64 (hs_5.cell (x76.add 10)) fun x77_10 =>
 oI .i64 (hs_5.cell (((⟨b3, 0, none⟩ : Addr).add 6).add 0)) fun x79_0 =>
 oI .i64 (hs_5.cell (((⟨b3, 0, none⟩ : Addr).add 6).add 1)) fun x79_1 =>
 oI .i64 (hs_5.cell (((⟨b3, 0, none⟩ : Addr).add 6).add 2)) fun x79_2 =>
 oI .i64 (hs_5.cell (((⟨b3, 0, none⟩ : Addr).add 6).add 3)) fun x79_3 =>
 oI .i64 (hs_5.cell (((⟨b3, 0, none⟩ : Addr).add 6).add 4)) fun x79_4 =>
 Meets Try.prog 72 #[(.agg #[(.int .i64 x77_0), (.int .i64 x77_1), (.int .i64 x77_2), (.int .i64 x77_3), (.bool x77_4), (.int .i64 x77_5), (.int .i64 x77_6), (.int .i64 x77_7), (.int .i64 x77_8), (.int .i64 x77_9), (.int .i64 x77_10)]), (.agg #[(.int .i64 x79_0), (.int .i64 x79_1), (.int .i64 x79_2), (.int .i64 x79_3), (.int .i64 x79_4)])] h_8 fun v80 h_14 =>
 oB (some v80) fun x80 =>
 PH.le hs_5 h_14 ∧
 xSc (!x80) false (fun J_12 =>
 xNn a0 fun x84 =>
 oP (hs_5.cell (x84.add 1)) fun x86 =>
 oI .i64 (hs_5.cell (((⟨b3, 0, none⟩ : Addr).add 6).add 0)) fun x88_0 =>
 oI .i64 (hs_5.cell (((⟨b3, 0, none⟩ : Addr).add 6).add 1)) fun x88_1 =>
 oI .i64 (hs_5.cell (((⟨b3, 0, none⟩ : Addr).add 6).add 2)) fun x88_2 =>
 oI .i64 (hs_5.cell (((⟨b3, 0, none⟩ : Addr).add 6).add 3)) fun x88_3 =>
 oI .i64 (hs_5.cell (((⟨b3, 0, none⟩ : Addr).add 6).add 4)) fun x88_4 =>
 Meets Try.prog 14 #[(.pointer x86), (.agg #[(.int .i64 x88_0), (.int .i64 x88_1), (.int .i64 x88_2), (.int .i64 x88_3), (.int .i64 x88_4)])] h_14 fun v89 h_15 =>
 oI .i64 (some v89) fun x89 =>
 PH.le hs_5 h_15 ∧
 J_12 (x89 != 0) h_15)
 (fun r91 h_16 =>
 xIte r91 (fun J_13 =>
 Q (.int .i64 15) h_16)
 (fun J_13 =>
 J_13 h_16)
 (fun  (h_17 : PH) =>
 xNn (some x38) fun x93 =>
 oI .i64 (h_17.cell (x93.add 5)) fun x95 =>
 xNn (some x38) fun x97 =>
 xSt 1 h_17 (x97.add 5) [(.int .i64 (IntKind.wrap .i64 (x95 + 1)))] fun h_18 =>
 oI .i64 (h_18.cell (((⟨b3, 0, none⟩ : Addr).add 6).add 0)) fun x101_0 =>
 oI .i64 (h_18.cell (((⟨b3, 0, none⟩ : Addr).add 6).add 1)) fun x101_1 =>
 oI .i64 (h_18.cell (((⟨b3, 0, none⟩ : Addr).add 6).add 2)) fun x101_2 =>
 oI .i64 (h_18.cell (((⟨b3, 0, none⟩ : Addr).add 6).add 3)) fun x101_3 =>
 oI .i64 (h_18.cell (((⟨b3, 0, none⟩ : Addr).add 6).add 4)) fun x101_4 =>
 xNn (some x38) fun x102 =>
 xSt 5 h_18 (x102.add 6) [(.int .i64 x101_0), (.int .i64 x101_1), (.int .i64 x101_2), (.int .i64 x101_3), (.int .i64 x101_4)] fun h_19 =>
 J_11 h_19)) h_14)
 (fun J_11 =>
 xIte (x40 == 3) (fun J_14 =>
 xNn (some x38) fun x108 =>
 oI .i64 (h_8.cell (x108.add 0)) fun x109_0 =>
 oI .i64 (h_8.cell (x108.add 1)) fun x109_1 =>
 oI .i64 (h_8.cell (x108.add 2)) fun x109_2 =>
 oI .i64 (h_8.cell (x108.add 3)) fun x109_3 =>
 oB (h_8.cell (x108.add 4)) fun x109_4 =>
 oI .i64 (h_8.cell (x108.add 5)) fun x109_5 =>
 oI .i64 (h_8.cell (x108.add 6)) fun x109_6 =>
 oI .i64 (h_8.cell (x108.add 7)) fun x109_7 =>
 oI .i64 (h_8.cell (x108.add 8)) fun x109_8 =>
 oI .i64 (h_8.cell (x108.add 9)) fun x109_9 =>
 oI .i64 (h_8.cell (x108.add 10)) fun x109_10 =>
 Meets Try.prog 73 #[(.agg #[(.int .i64 x109_0), (.int .i64 x109_1), (.int .i64 x109_2), (.int .i64 x109_3), (.bool x109_4), (.int .i64 x109_5), (.int .i64 x109_6), (.int .i64 x109_7), (.int .i64 x109_8), (.int .i64 x109_9), (.int .i64 x109_10)])] h_8 fun v110 h_20 =>
 oTup v110 3 fun x110cs =>
 oIx x110cs[0]? fun x110w =>
 oI .i64 (some x110w) fun x110_0 =>
 oIx x110cs[1]? fun x110w_1 =>
 oI .i64 (some x110w_1) fun x110_1 =>
 oIx x110cs[2]? fun x110w_2 =>
 oB (some x110w_2) fun x110_2 =>
 oI .i64 (some (.int .i64 x110_0)) fun x111 =>
 oI .i64 (some (.int .i64 x110_1)) fun x112 =>
 oB (some (.bool x110_2)) fun x113 =>
 xDraw h_20 fun hs_6 =>
 xSc (!x113) false (fun J_15 =>
 oI .i64 (hs_6.cell ((⟨b3, 0, none⟩ : Addr).add 2)) fun x118 =>
 xNn (some x38) fun x120 =>
 oI .i64 (hs_6.cell (x120.add 3)) fun x122 =>
 J_15 (x118 != (IntKind.wrap .i64 (x122 - 1))) h_20)
 (fun r125 h_21 =>
 xSc r125 false (fun J_16 =>
 oI .i64 (hs_6.cell ((⟨b3, 0, none⟩ : Addr).add 11)) fun x128 =>
 J_16 (x128 != x111) h_21)
 (fun r131 h_22 =>
 xSc r131 false (fun J_17 =>
 oI .i64 (hs_6.cell ((⟨b3, 0, none⟩ : Addr).add 12)) fun x134 =>
 J_17 (x134 != x112) h_22)
 (fun r137 h_23 =>
 xIte r137 (fun J_18 =>
 Q (.int .i64 15) h_23)
 (fun J_18 =>
 J_18 h_23)
 (fun  (h_24 : PH) =>
 xNn (some x38) fun x140 =>
 oI .i64 (h_24.cell (x140.add 3)) fun x142 =>
 xNn (some x38) fun x144 =>
 xSt 11 h_24 x144 [(.int .i64 0), (.int .i64 0), (.int .i64 0), (.int .i64 x142), (.bool false), (.int .i64 0), (.int .i64 0), (.int .i64 0), (.int .i64 0), (.int .i64 0), (.int .i64 0)] fun h_25 =>
 J_14 h_25)) h_22) h_21) h_20)
 (fun J_14 =>
 J_14 h_8)
 (fun  (h_26 : PH) =>
 J_11 h_26))
 (fun  (h_27 : PH) =>
 J_7 h_27))
 (fun  (h_28 : PH) =>
 J_6 h_28))
 (fun  (h_29 : PH) =>
 xDraw h_29 fun hs_7 =>
 xNn a0 fun x147 =>
 oS (hs_7.cell (x147.add 3)) fun x149a x149l x149c =>
 oI .i64 (hs_7.cell ((⟨b3, 0, none⟩ : Addr).add 0)) fun x150_0 =>
 oI .i64 (hs_7.cell ((⟨b3, 0, none⟩ : Addr).add 1)) fun x150_1 =>
 oI .i64 (hs_7.cell ((⟨b3, 0, none⟩ : Addr).add 2)) fun x150_2 =>
 oI .i64 (hs_7.cell ((⟨b3, 0, none⟩ : Addr).add 3)) fun x150_3 =>
 oI .i64 (hs_7.cell ((⟨b3, 0, none⟩ : Addr).add 4)) fun x150_4 =>
 oI .i64 (hs_7.cell ((⟨b3, 0, none⟩ : Addr).add 5)) fun x150_5 =>
 oI .i64 (hs_7.cell ((⟨b3, 0, none⟩ : Addr).add 6)) fun x150_6 =>
 oI .i64 (hs_7.cell ((⟨b3, 0, none⟩ : Addr).add 7)) fun x150_7 =>
 oI .i64 (hs_7.cell ((⟨b3, 0, none⟩ : Addr).add 8)) fun x150_8 =>
 oI .i64 (hs_7.cell ((⟨b3, 0, none⟩ : Addr).add 9)) fun x150_9 =>
 oI .i64 (hs_7.cell ((⟨b3, 0, none⟩ : Addr).add 10)) fun x150_10 =>
 oI .i64 (hs_7.cell ((⟨b3, 0, none⟩ : Addr).add 11)) fun x150_11 =>
 oI .i64 (hs_7.cell ((⟨b3, 0, none⟩ : Addr).add 12)) fun x150_12 =>
 xNew h_29 (.cells #[(.int .i64 x150_0), (.int .i64 x150_1), (.int .i64 x150_2), (.int .i64 x150_3), (.int .i64 x150_4), (.int .i64 x150_5), (.int .i64 x150_6), (.int .i64 x150_7), (.int .i64 x150_8), (.int .i64 x150_9), (.int .i64 x150_10), (.int .i64 x150_11), (.int .i64 x150_12)] 90 (0, 0)) fun b151 h_30 =>
 PH.le hs_7 h_30 ∧
 xApp h_30 90 13 104 x149a x149l x149c (.slice (some (⟨b151, 0, none⟩ : Addr)) 1 1) fun x152a x152l x152c h_31 =>
 PH.le hs_7 h_31 ∧
 xNn a0 fun x153 =>
 xSt 1 h_31 (x153.add 3) [(.slice x152a x152l x152c)] fun h_32 =>
 Q (.int .i64 0) h_32))
theorem P_ghost_Log_Add_eq (a0 : Option Addr) (a1_0 : Int) (a1_1 : Int) (a1_2 : Int) (a1_3 : Int) (a1_4 : Int) (a1_5 : Int) (a1_6 : Int) (a1_7 : Int) (a1_8 : Int) (a1_9 : Int) (a1_10 : Int) (a1_11 : Int) (a1_12 : Int) (h : PH) (Q : Value → PH → Prop) : dFn Try.prog Try.f40 A_ghost_Log_Add #[(.pointer a0), (.agg #[(.int .i64 a1_0), (.int .i64 a1_1), (.int .i64 a1_2), (.int .i64 a1_3), (.int .i64 a1_4), (.int .i64 a1_5), (.int .i64 a1_6), (.int .i64 a1_7), (.int .i64 a1_8), (.int .i64 a1_9), (.int .i64 a1_10), (.int .i64 a1_11), (.int .i64 a1_12)])] h Q = P_ghost_Log_Add a0 a1_0 a1_1 a1_2 a1_3 a1_4 a1_5 a1_6 a1_7 a1_8 a1_9 a1_10 a1_11 a1_12 h Q := by kernel_rfl
theorem P_ghost_Log_Add_of {a0 : Option Addr} {a1_0 : Int} {a1_1 : Int} {a1_2 : Int} {a1_3 : Int} {a1_4 : Int} {a1_5 : Int} {a1_6 : Int} {a1_7 : Int} {a1_8 : Int} {a1_9 : Int} {a1_10 : Int} {a1_11 : Int} {a1_12 : Int} {h : PH} {Q : Value → PH → Prop} (x : P_ghost_Log_Add a0 a1_0 a1_1 a1_2 a1_3 a1_4 a1_5 a1_6 a1_7 a1_8 a1_9 a1_10 a1_11 a1_12 h Q) : Meets Try.prog 40 #[(.pointer a0), (.agg #[(.int .i64 a1_0), (.int .i64 a1_1), (.int .i64 a1_2), (.int .i64 a1_3), (.int .i64 a1_4), (.int .i64 a1_5), (.int .i64 a1_6), (.int .i64 a1_7), (.int .i64 a1_8), (.int .i64 a1_9), (.int .i64 a1_10), (.int .i64 a1_11), (.int .i64 a1_12)])] h Q :=
  spec_of Try.func40 mix (by kernel_rfl) ((P_ghost_Log_Add_eq a0 a1_0 a1_1 a1_2 a1_3 a1_4 a1_5 a1_6 a1_7 a1_8 a1_9 a1_10 a1_11 a1_12 h Q).symm ▸ x)
/-- (*futtock/ghost.Log).All -/
def A_ghost_Log_All : Ann := .seq (.leaf) (.seq (.seq (.leaf) (.cond [] (.seq (.leaf) (.leaf)) (.leaf))) (.seq (.leaf) (.leaf)))
def P_ghost_Log_All (a0 : Option Addr) (h : PH) (Q : Value → PH → Prop) : Prop :=
 Meets Try.prog 69 #[(.pointer a0)] h fun v4 h_1 =>
 oB (some v4) fun x4 =>
 xIte (!x4) (fun J_1 =>
 Q (.slice none 0 0) h_1)
 (fun J_1 =>
 J_1 h_1)
 (fun  (h_2 : PH) =>
 xNn a0 fun x7 =>
 oS (h_2.cell (x7.add 3)) fun x9a x9l x9c =>
 Meets Try.prog 74 #[(.slice x9a x9l x9c)] h_2 fun v10 h_3 =>
 oS (some v10) fun x10a x10l x10c =>
 Q (.slice x10a x10l x10c) h_3)
theorem P_ghost_Log_All_eq (a0 : Option Addr) (h : PH) (Q : Value → PH → Prop) : dFn Try.prog Try.f41 A_ghost_Log_All #[(.pointer a0)] h Q = P_ghost_Log_All a0 h Q := by kernel_rfl
theorem P_ghost_Log_All_of {a0 : Option Addr} {h : PH} {Q : Value → PH → Prop} (x : P_ghost_Log_All a0 h Q) : Meets Try.prog 41 #[(.pointer a0)] h Q :=
  spec_of Try.func41 mix (by kernel_rfl) ((P_ghost_Log_All_eq a0 h Q).symm ▸ x)
/-- (*futtock/ghost.Log).Open -/
def A_ghost_Log_Open : Ann := .seq (.leaf) (.seq (.seq (.leaf) (.cond [] (.seq (.leaf) (.leaf)) (.leaf))) (.seq (.draw [(0, .flt), (1, .flt), (2, .flt), (3, .flt), (4, .flt), (5, .flt), (6, .flt), (7, .flt), (8, .flt), (9, .flt), (10, .flt), (11, .flt), (12, .flt), (13, .flt), (14, .flt), (15, .flt), (16, .eff), (17, .flt)]) (.leaf)))
def P_ghost_Log_Open (a0 : Option Addr) (a1 : Int) (h : PH) (Q : Value → PH → Prop) : Prop :=
 xNew h (.cells #[(.int .i64 0), (.int .i64 0), (.int .i64 0)] 86 (0, 0)) fun b4 h_1 =>
 Meets Try.prog 69 #[(.pointer a0)] h_1 fun v7 h_2 =>
 oB (some v7) fun x7 =>
 xSc (!x7) false (fun J_1 =>
 J_1 (decide ((a1 : Int) < 0)) h_2)
 (fun r12 h_3 =>
 xSc r12 false (fun J_2 =>
 xNn a0 fun x16 =>
 oS (h_3.cell (x16.add 2)) fun x18a x18l x18c =>
 J_2 (decide ((a1 : Int) ≥ ((x18l : Nat) : Int))) h_3)
 (fun r21 h_4 =>
 xIte r21 (fun J_3 =>
 xSt 3 h_4 (⟨b4, 0, none⟩ : Addr) [(.int .i64 0), (.int .i64 0), (.int .i64 0)] fun h_5 =>
 oI .i64 (h_5.cell ((⟨b4, 0, none⟩ : Addr).add 0)) fun y4_0 =>
 oI .i64 (h_5.cell ((⟨b4, 0, none⟩ : Addr).add 1)) fun y4_1 =>
 oI .i64 (h_5.cell ((⟨b4, 0, none⟩ : Addr).add 2)) fun y4_2 =>
 Q (.tuple #[(.agg #[(.int .i64 y4_0), (.int .i64 y4_1), (.int .i64 y4_2)]), (.bool false)]) h_5)
 (fun J_3 =>
 J_3 h_4)
 (fun  (h_6 : PH) =>
 xDraw h_6 fun hs_1 =>
 xNn a0 fun x24 =>
 oS (hs_1.cell (x24.add 2)) fun x26a x26l x26c =>
 xIdx x26a x26l a1 11 fun x28 =>
 oI .i64 (hs_1.cell ((x28.add 0).add 0)) fun x30_0 =>
 oI .i64 (hs_1.cell ((x28.add 0).add 1)) fun x30_1 =>
 oI .i64 (hs_1.cell ((x28.add 0).add 2)) fun x30_2 =>
 xNn a0 fun x32 =>
 oS (hs_1.cell (x32.add 2)) fun x34a x34l x34c =>
 xIdx x34a x34l a1 11 fun x36 =>
 oB (hs_1.cell (x36.add 4)) fun x38 =>
 xSt 3 h_6 (⟨b4, 0, none⟩ : Addr) [(.int .i64 x30_0), (.int .i64 x30_1), (.int .i64 x30_2)] fun h_7 =>
 PH.le hs_1 h_7 ∧
 oI .i64 (h_7.cell ((⟨b4, 0, none⟩ : Addr).add 0)) fun y4_0_1 =>
 oI .i64 (h_7.cell ((⟨b4, 0, none⟩ : Addr).add 1)) fun y4_1_1 =>
 oI .i64 (h_7.cell ((⟨b4, 0, none⟩ : Addr).add 2)) fun y4_2_1 =>
 Q (.tuple #[(.agg #[(.int .i64 y4_0_1), (.int .i64 y4_1_1), (.int .i64 y4_2_1)]), (.bool x38)]) h_7)) h_3) h_2
theorem P_ghost_Log_Open_eq (a0 : Option Addr) (a1 : Int) (h : PH) (Q : Value → PH → Prop) : dFn Try.prog Try.f42 A_ghost_Log_Open #[(.pointer a0), (.int .i64 a1)] h Q = P_ghost_Log_Open a0 a1 h Q := by kernel_rfl
theorem P_ghost_Log_Open_of {a0 : Option Addr} {a1 : Int} {h : PH} {Q : Value → PH → Prop} (x : P_ghost_Log_Open a0 a1 h Q) : Meets Try.prog 42 #[(.pointer a0), (.int .i64 a1)] h Q :=
  spec_of Try.func42 mix (by kernel_rfl) ((P_ghost_Log_Open_eq a0 a1 h Q).symm ▸ x)
/-- (*futtock/ghost.Log).Len -/
def A_ghost_Log_Len : Ann := .seq (.leaf) (.seq (.seq (.leaf) (.cond [] (.seq (.leaf) (.leaf)) (.leaf))) (.seq (.leaf) (.leaf)))
def P_ghost_Log_Len (a0 : Option Addr) (h : PH) (Q : Value → PH → Prop) : Prop :=
 Meets Try.prog 69 #[(.pointer a0)] h fun v4 h_1 =>
 oB (some v4) fun x4 =>
 xIte (!x4) (fun J_1 =>
 Q (.int .i64 0) h_1)
 (fun J_1 =>
 J_1 h_1)
 (fun  (h_2 : PH) =>
 xNn a0 fun x7 =>
 oS (h_2.cell (x7.add 3)) fun x9a x9l x9c =>
 Q (.int .i64 ((x9l : Nat) : Int)) h_2)
theorem P_ghost_Log_Len_eq (a0 : Option Addr) (h : PH) (Q : Value → PH → Prop) : dFn Try.prog Try.f43 A_ghost_Log_Len #[(.pointer a0)] h Q = P_ghost_Log_Len a0 h Q := by kernel_rfl
theorem P_ghost_Log_Len_of {a0 : Option Addr} {h : PH} {Q : Value → PH → Prop} (x : P_ghost_Log_Len a0 h Q) : Meets Try.prog 43 #[(.pointer a0)] h Q :=
  spec_of Try.func43 mix (by kernel_rfl) ((P_ghost_Log_Len_eq a0 h Q).symm ▸ x)
/-- (*futtock/ghost.Log).Model -/
def A_ghost_Log_Model : Ann := .seq (.leaf) (.seq (.seq (.leaf) (.cond [] (.seq (.leaf) (.leaf)) (.leaf))) (.seq (.leaf) (.leaf)))
def P_ghost_Log_Model (a0 : Option Addr) (h : PH) (Q : Value → PH → Prop) : Prop :=
 Meets Try.prog 69 #[(.pointer a0)] h fun v4 h_1 =>
 oB (some v4) fun x4 =>
 xIte (!x4) (fun J_1 =>
 Q (.pointer none) h_1)
 (fun J_1 =>
 J_1 h_1)
 (fun  (h_2 : PH) =>
 xNn a0 fun x7 =>
 oP (h_2.cell (x7.add 1)) fun x9 =>
 Meets Try.prog 13 #[(.pointer x9)] h_2 fun v10 h_3 =>
 oP (some v10) fun x10 =>
 Q (.pointer x10) h_3)
theorem P_ghost_Log_Model_eq (a0 : Option Addr) (h : PH) (Q : Value → PH → Prop) : dFn Try.prog Try.f44 A_ghost_Log_Model #[(.pointer a0)] h Q = P_ghost_Log_Model a0 h Q := by kernel_rfl
theorem P_ghost_Log_Model_of {a0 : Option Addr} {h : PH} {Q : Value → PH → Prop} (x : P_ghost_Log_Model a0 h Q) : Meets Try.prog 44 #[(.pointer a0)] h Q :=
  spec_of Try.func44 mix (by kernel_rfl) ((P_ghost_Log_Model_eq a0 h Q).symm ▸ x)
/-- (*futtock/ghost.Log).ok -/
def A_ghost_Log_ok : Ann := .seq (.leaf) (.seq (.leaf) (.leaf))
def P_ghost_Log_ok (a0 : Option Addr) (h : PH) (Q : Value → PH → Prop) : Prop :=
 xSc (!(Option.isNone a0)) true (fun J_1 =>
 xNn a0 fun x7 =>
 oP (h.cell (x7.add 1)) fun x9 =>
 J_1 (!(Option.isNone x9)) h)
 (fun r11 h_1 =>
 Q (.bool r11) h_1) h
theorem P_ghost_Log_ok_eq (a0 : Option Addr) (h : PH) (Q : Value → PH → Prop) : dFn Try.prog Try.f69 A_ghost_Log_ok #[(.pointer a0)] h Q = P_ghost_Log_ok a0 h Q := by kernel_rfl
theorem P_ghost_Log_ok_of {a0 : Option Addr} {h : PH} {Q : Value → PH → Prop} (x : P_ghost_Log_ok a0 h Q) : Meets Try.prog 69 #[(.pointer a0)] h Q :=
  spec_of Try.func69 mix (by kernel_rfl) ((P_ghost_Log_ok_eq a0 h Q).symm ▸ x)
/-- futtock/ghost.isBare -/
def A_ghost_isBare : Ann := .seq (.leaf) (.seq (.leaf) (.seq (.seq (.leaf) (.block [] (.seq (.leaf) (.cond [] (.draw [(0, .flt), (1, .flt), (2, .flt), (3, .flt), (4, .flt), (5, .eff), (6, .flt), (7, .brk)]) (.seq (.leaf) (.cond [] (.draw [(0, .flt), (1, .flt), (2, .flt), (3, .flt), (4, .flt), (5, .flt), (6, .eff), (7, .flt), (8, .brk)]) (.seq (.leaf) (.cond [] (.draw [(0, .flt), (1, .flt), (2, .flt), (3, .flt), (4, .flt), (5, .flt), (6, .flt), (7, .eff), (8, .flt), (9, .eff), (10, .flt), (11, .brk)]) (.seq (.leaf) (.leaf)))))))))) (.seq (.leaf) (.leaf))))
def P_ghost_isBare (a0_0 : Int) (a0_1 : Int) (a0_2 : Int) (a0_3 : Int) (a0_4 : Int) (a0_5 : Int) (a0_6 : Int) (a0_7 : Int) (a0_8 : Int) (a0_9 : Int) (a0_10 : Int) (a0_11 : Int) (a0_12 : Int) (h : PH) (Q : Value → PH → Prop) : Prop :=
 xNew h (.cells #[(.int .i64 a0_0), (.int .i64 a0_1), (.int .i64 a0_2), (.int .i64 a0_3), (.int .i64 a0_4), (.int .i64 a0_5), (.int .i64 a0_6), (.int .i64 a0_7), (.int .i64 a0_8), (.int .i64 a0_9), (.int .i64 a0_10), (.int .i64 a0_11), (.int .i64 a0_12)] 90 (0, 0)) fun b1 h_1 =>
 oI .i64 (h_1.cell ((⟨b1, 0, none⟩ : Addr).add 0)) fun x5 =>
 oI .i64 (h_1.cell ((⟨b1, 0, none⟩ : Addr).add 1)) fun x7 =>
 xNew h_1 (.cells #[(.int .i64 0), (.int .i64 0), (.int .i64 0), (.int .i64 0), (.int .i64 0), (.int .i64 0), (.int .i64 0), (.int .i64 0), (.int .i64 0), (.int .i64 0), (.int .i64 0), (.int .i64 0), (.int .i64 0)] 90 (0, 0)) fun b3 h_2 =>
 xSt 13 h_2 (⟨b3, 0, none⟩ : Addr) [(.int .i64 x5), (.int .i64 x7), (.int .i64 0), (.int .i64 0), (.int .i64 0), (.int .i64 0), (.int .i64 0), (.int .i64 0), (.int .i64 0), (.int .i64 0), (.int .i64 0), (.int .i64 0), (.int .i64 0)] fun h_3 =>
 oI .i64 (h_3.cell ((⟨b1, 0, none⟩ : Addr).add 0)) fun x10 =>
 xBlk (fun J_1 =>
 xIte (x10 == 1) (fun J_2 =>
 xDraw h_3 fun hs_1 =>
 oI .i64 (hs_1.cell ((⟨b1, 0, none⟩ : Addr).add 2)) fun x14 =>
 oI .i64 (hs_1.cell (((⟨b1, 0, none⟩ : Addr).add 3).add 0)) fun x16_0 =>
 oI .i64 (hs_1.cell (((⟨b1, 0, none⟩ : Addr).add 3).add 1)) fun x16_1 =>
 oI .i64 (hs_1.cell (((⟨b1, 0, none⟩ : Addr).add 3).add 2)) fun x16_2 =>
 xSt 1 h_3 ((⟨b3, 0, none⟩ : Addr).add 2) [(.int .i64 x14)] fun h_4 =>
 PH.le hs_1 h_4 ∧
 xSt 3 h_4 ((⟨b3, 0, none⟩ : Addr).add 3) [(.int .i64 x16_0), (.int .i64 x16_1), (.int .i64 x16_2)] fun h_5 =>
 J_2 h_5)
 (fun J_2 =>
 xIte (x10 == 2) (fun J_3 =>
 xDraw h_3 fun hs_2 =>
 oI .i64 (hs_2.cell (((⟨b1, 0, none⟩ : Addr).add 6).add 1)) fun x23 =>
 oI .i64 (hs_2.cell (((⟨b1, 0, none⟩ : Addr).add 6).add 0)) fun x25_0 =>
 oI .i64 (hs_2.cell (((⟨b1, 0, none⟩ : Addr).add 6).add 1)) fun x25_1 =>
 oI .i64 (hs_2.cell (((⟨b1, 0, none⟩ : Addr).add 6).add 2)) fun x25_2 =>
 oI .i64 (hs_2.cell (((⟨b1, 0, none⟩ : Addr).add 6).add 3)) fun x25_3 =>
 oI .i64 (hs_2.cell (((⟨b1, 0, none⟩ : Addr).add 6).add 4)) fun x25_4 =>
 xSt 1 h_3 ((⟨b3, 0, none⟩ : Addr).add 1) [(.int .i64 x23)] fun h_6 =>
 PH.le hs_2 h_6 ∧
 xSt 5 h_6 ((⟨b3, 0, none⟩ : Addr).add 6) [(.int .i64 x25_0), (.int .i64 x25_1), (.int .i64 x25_2), (.int .i64 x25_3), (.int .i64 x25_4)] fun h_7 =>
 J_3 h_7)
 (fun J_3 =>
 xIte (x10 == 3) (fun J_4 =>
 xDraw h_3 fun hs_3 =>
 oI .i64 (hs_3.cell ((⟨b1, 0, none⟩ : Addr).add 2)) fun x31 =>
 oI .i64 (hs_3.cell ((⟨b1, 0, none⟩ : Addr).add 11)) fun x33 =>
 oI .i64 (hs_3.cell ((⟨b1, 0, none⟩ : Addr).add 12)) fun x35 =>
 xSt 1 h_3 ((⟨b3, 0, none⟩ : Addr).add 2) [(.int .i64 x31)] fun h_8 =>
 PH.le hs_3 h_8 ∧
 xSt 1 h_8 ((⟨b3, 0, none⟩ : Addr).add 11) [(.int .i64 x33)] fun h_9 =>
 PH.le hs_3 h_9 ∧
 xSt 1 h_9 ((⟨b3, 0, none⟩ : Addr).add 12) [(.int .i64 x35)] fun h_10 =>
 J_4 h_10)
 (fun J_4 =>
 Q (.bool false) h_3)
 (fun  (h_11 : PH) =>
 J_3 h_11))
 (fun  (h_12 : PH) =>
 J_2 h_12))
 (fun  (h_13 : PH) =>
 J_1 h_13))
 (fun  (h_14 : PH) =>
 oI .i64 (h_14.cell ((⟨b3, 0, none⟩ : Addr).add 0)) fun x39_0 =>
 oI .i64 (h_14.cell ((⟨b3, 0, none⟩ : Addr).add 1)) fun x39_1 =>
 oI .i64 (h_14.cell ((⟨b3, 0, none⟩ : Addr).add 2)) fun x39_2 =>
 oI .i64 (h_14.cell ((⟨b3, 0, none⟩ : Addr).add 3)) fun x39_3 =>
 oI .i64 (h_14.cell ((⟨b3, 0, none⟩ : Addr).add 4)) fun x39_4 =>
 oI .i64 (h_14.cell ((⟨b3, 0, none⟩ : Addr).add 5)) fun x39_5 =>
 oI .i64 (h_14.cell ((⟨b3, 0, none⟩ : Addr).add 6)) fun x39_6 =>
 oI .i64 (h_14.cell ((⟨b3, 0, none⟩ : Addr).add 7)) fun x39_7 =>
 oI .i64 (h_14.cell ((⟨b3, 0, none⟩ : Addr).add 8)) fun x39_8 =>
 oI .i64 (h_14.cell ((⟨b3, 0, none⟩ : Addr).add 9)) fun x39_9 =>
 oI .i64 (h_14.cell ((⟨b3, 0, none⟩ : Addr).add 10)) fun x39_10 =>
 oI .i64 (h_14.cell ((⟨b3, 0, none⟩ : Addr).add 11)) fun x39_11 =>
 oI .i64 (h_14.cell ((⟨b3, 0, none⟩ : Addr).add 12)) fun x39_12 =>
 oI .i64 (h_14.cell ((⟨b1, 0, none⟩ : Addr).add 0)) fun x40_0 =>
 oI .i64 (h_14.cell ((⟨b1, 0, none⟩ : Addr).add 1)) fun x40_1 =>
 oI .i64 (h_14.cell ((⟨b1, 0, none⟩ : Addr).add 2)) fun x40_2 =>
 oI .i64 (h_14.cell ((⟨b1, 0, none⟩ : Addr).add 3)) fun x40_3 =>
 oI .i64 (h_14.cell ((⟨b1, 0, none⟩ : Addr).add 4)) fun x40_4 =>
 oI .i64 (h_14.cell ((⟨b1, 0, none⟩ : Addr).add 5)) fun x40_5 =>
 oI .i64 (h_14.cell ((⟨b1, 0, none⟩ : Addr).add 6)) fun x40_6 =>
 oI .i64 (h_14.cell ((⟨b1, 0, none⟩ : Addr).add 7)) fun x40_7 =>
 oI .i64 (h_14.cell ((⟨b1, 0, none⟩ : Addr).add 8)) fun x40_8 =>
 oI .i64 (h_14.cell ((⟨b1, 0, none⟩ : Addr).add 9)) fun x40_9 =>
 oI .i64 (h_14.cell ((⟨b1, 0, none⟩ : Addr).add 10)) fun x40_10 =>
 oI .i64 (h_14.cell ((⟨b1, 0, none⟩ : Addr).add 11)) fun x40_11 =>
 oI .i64 (h_14.cell ((⟨b1, 0, none⟩ : Addr).add 12)) fun x40_12 =>
 xEq Try.prog 90 (.agg #[(.int .i64 x39_0), (.int .i64 x39_1), (.int .i64 x39_2), (.int .i64 x39_3), (.int .i64 x39_4), (.int .i64 x39_5), (.int .i64 x39_6), (.int .i64 x39_7), (.int .i64 x39_8), (.int .i64 x39_9), (.int .i64 x39_10), (.int .i64 x39_11), (.int .i64 x39_12)]) (.agg #[(.int .i64 x40_0), (.int .i64 x40_1), (.int .i64 x40_2), (.int .i64 x40_3), (.int .i64 x40_4), (.int .i64 x40_5), (.int .i64 x40_6), (.int .i64 x40_7), (.int .i64 x40_8), (.int .i64 x40_9), (.int .i64 x40_10), (.int .i64 x40_11), (.int .i64 x40_12)]) fun x41 =>
 Q (.bool x41) h_14)
theorem P_ghost_isBare_eq (a0_0 : Int) (a0_1 : Int) (a0_2 : Int) (a0_3 : Int) (a0_4 : Int) (a0_5 : Int) (a0_6 : Int) (a0_7 : Int) (a0_8 : Int) (a0_9 : Int) (a0_10 : Int) (a0_11 : Int) (a0_12 : Int) (h : PH) (Q : Value → PH → Prop) : dFn Try.prog Try.f70 A_ghost_isBare #[(.agg #[(.int .i64 a0_0), (.int .i64 a0_1), (.int .i64 a0_2), (.int .i64 a0_3), (.int .i64 a0_4), (.int .i64 a0_5), (.int .i64 a0_6), (.int .i64 a0_7), (.int .i64 a0_8), (.int .i64 a0_9), (.int .i64 a0_10), (.int .i64 a0_11), (.int .i64 a0_12)])] h Q = P_ghost_isBare a0_0 a0_1 a0_2 a0_3 a0_4 a0_5 a0_6 a0_7 a0_8 a0_9 a0_10 a0_11 a0_12 h Q := by kernel_rfl
theorem P_ghost_isBare_of {a0_0 : Int} {a0_1 : Int} {a0_2 : Int} {a0_3 : Int} {a0_4 : Int} {a0_5 : Int} {a0_6 : Int} {a0_7 : Int} {a0_8 : Int} {a0_9 : Int} {a0_10 : Int} {a0_11 : Int} {a0_12 : Int} {h : PH} {Q : Value → PH → Prop} (x : P_ghost_isBare a0_0 a0_1 a0_2 a0_3 a0_4 a0_5 a0_6 a0_7 a0_8 a0_9 a0_10 a0_11 a0_12 h Q) : Meets Try.prog 70 #[(.agg #[(.int .i64 a0_0), (.int .i64 a0_1), (.int .i64 a0_2), (.int .i64 a0_3), (.int .i64 a0_4), (.int .i64 a0_5), (.int .i64 a0_6), (.int .i64 a0_7), (.int .i64 a0_8), (.int .i64 a0_9), (.int .i64 a0_10), (.int .i64 a0_11), (.int .i64 a0_12)])] h Q :=
  spec_of Try.func70 mix (by kernel_rfl) ((P_ghost_isBare_eq a0_0 a0_1 a0_2 a0_3 a0_4 a0_5 a0_6 a0_7 a0_8 a0_9 a0_10 a0_11 a0_12 h Q).symm ▸ x)
/-- (*futtock/ghost.Log).may -/
def A_ghost_Log_may : Ann := .seq (.leaf) (.seq (.seq (.draw [(0, .flt), (1, .flt), (2, .eff), (3, .flt), (4, .flt), (5, .flt), (6, .flt), (7, .flt), (8, .flt), (9, .flt), (10, .flt), (11, .flt), (12, .flt), (13, .flt), (14, .flt), (15, .flt), (16, .flt), (17, .flt), (18, .flt), (19, .flt), (20, .flt), (21, .flt), (22, .flt)]) (.cond [] (.seq (.leaf) (.leaf)) (.leaf))) (.seq (.seq (.leaf) (.block [] (.seq (.leaf) (.cond [] (.seq (.draw [(0, .flt), (1, .flt), (2, .flt), (3, .flt), (4, .flt), (5, .flt), (6, .flt), (7, .flt), (8, .flt)]) (.leaf)) (.seq (.leaf) (.cond [] (.seq (.leaf) (.leaf)) (.leaf))))))) (.seq (.leaf) (.leaf))))
def P_ghost_Log_may (a0 : Option Addr) (a1_0 : Int) (a1_1 : Int) (a1_2 : Int) (h : PH) (Q : Value → PH → Prop) : Prop :=
 xNew h (.cells #[(.int .i64 a1_0), (.int .i64 a1_1), (.int .i64 a1_2)] 86 (0, 0)) fun b3 h_1 =>
 xDraw h_1 fun hs_1 =>
 oI .i64 (hs_1.cell ((⟨b3, 0, none⟩ : Addr).add 0)) fun x6 =>
 Meets Try.prog 99 #[(.int .i64 x6)] h_1 fun v7 h_2 =>
 oI .i64 (some v7) fun x7 =>
 PH.le hs_1 h_2 ∧
 xSc (x7 == 0) false (fun J_1 =>
 oI .i64 (hs_1.cell ((⟨b3, 0, none⟩ : Addr).add 1)) fun x11 =>
 J_1 (decide ((x11 : Int) < 0)) h_2)
 (fun r13 h_3 =>
 xSc r13 false (fun J_2 =>
 oI .i64 (hs_1.cell ((⟨b3, 0, none⟩ : Addr).add 1)) fun x16 =>
 xNn a0 fun x18 =>
 oI .i64 (hs_1.cell (x18.add 0)) fun x20 =>
 J_2 (decide ((x16 : Int) ≥ x20)) h_3)
 (fun r22 h_4 =>
 xSc r22 false (fun J_3 =>
 oI .i64 (hs_1.cell ((⟨b3, 0, none⟩ : Addr).add 2)) fun x25 =>
 J_3 (decide ((x25 : Int) < 0)) h_4)
 (fun r27 h_5 =>
 xIte r27 (fun J_4 =>
 Q (.bool false) h_5)
 (fun J_4 =>
 J_4 h_5)
 (fun  (h_6 : PH) =>
 oI .i64 (h_6.cell ((⟨b3, 0, none⟩ : Addr).add 0)) fun x29 =>
 xBlk (fun J_5 =>
 xIte (x29 == 9) (fun J_6 =>
 xDraw h_6 fun hs_2 =>
 oI .i64 (hs_2.cell ((⟨b3, 0, none⟩ : Addr).add 2)) fun x33 =>
 xNn a0 fun x35 =>
 oS (hs_2.cell (x35.add 2)) fun x37a x37l x37c =>
 Q (.bool (decide ((x33 : Int) < ((x37l : Nat) : Int)))) h_6)
 (fun J_6 =>
 xIte (x29 == 4) (fun J_7 =>
 Q (.bool true) h_6)
 (fun J_7 =>
 J_7 h_6)
 (fun  (h_7 : PH) =>
 J_6 h_7))
 (fun  (h_8 : PH) =>
 J_5 h_8))
 (fun  (h_9 : PH) =>
 oI .i64 (h_9.cell ((⟨b3, 0, none⟩ : Addr).add 2)) fun x43 =>
 Q (.bool (x43 == 0)) h_9))) h_4) h_3) h_2
theorem P_ghost_Log_may_eq (a0 : Option Addr) (a1_0 : Int) (a1_1 : Int) (a1_2 : Int) (h : PH) (Q : Value → PH → Prop) : dFn Try.prog Try.f71 A_ghost_Log_may #[(.pointer a0), (.agg #[(.int .i64 a1_0), (.int .i64 a1_1), (.int .i64 a1_2)])] h Q = P_ghost_Log_may a0 a1_0 a1_1 a1_2 h Q := by kernel_rfl
theorem P_ghost_Log_may_of {a0 : Option Addr} {a1_0 : Int} {a1_1 : Int} {a1_2 : Int} {h : PH} {Q : Value → PH → Prop} (x : P_ghost_Log_may a0 a1_0 a1_1 a1_2 h Q) : Meets Try.prog 71 #[(.pointer a0), (.agg #[(.int .i64 a1_0), (.int .i64 a1_1), (.int .i64 a1_2)])] h Q :=
  spec_of Try.func71 mix (by kernel_rfl) ((P_ghost_Log_may_eq a0 a1_0 a1_1 a1_2 h Q).symm ▸ x)
/-- (futtock/ghost.thread).takes -/
def A_ghost_thread_takes : Ann := .seq (.leaf) (.seq (.seq (.leaf) (.cond [] (.seq (.leaf) (.leaf)) (.leaf))) (.seq (.seq (.leaf) (.block [] (.seq (.leaf) (.cond [] (.seq (.leaf) (.leaf)) (.seq (.seq (.leaf) (.cond [(22, .bool)] (.leaf) (.leaf))) (.cond [] (.seq (.leaf) (.leaf)) (.leaf))))))) (.seq (.draw [(0, .flt), (1, .flt), (2, .flt), (3, .flt), (4, .flt), (5, .flt), (6, .flt), (7, .flt), (8, .flt), (9, .eff), (10, .flt), (11, .flt), (12, .flt)]) (.leaf))))
def P_ghost_thread_takes (a0_0 : Int) (a0_1 : Int) (a0_2 : Int) (a0_3 : Int) (a0_4 : Bool) (a0_5 : Int) (a0_6 : Int) (a0_7 : Int) (a0_8 : Int) (a0_9 : Int) (a0_10 : Int) (a1_0 : Int) (a1_1 : Int) (a1_2 : Int) (a1_3 : Int) (a1_4 : Int) (h : PH) (Q : Value → PH → Prop) : Prop :=
 xNew h (.cells #[(.int .i64 a0_0), (.int .i64 a0_1), (.int .i64 a0_2), (.int .i64 a0_3), (.bool a0_4), (.int .i64 a0_5), (.int .i64 a0_6), (.int .i64 a0_7), (.int .i64 a0_8), (.int .i64 a0_9), (.int .i64 a0_10)] 147 (0, 0)) fun b2 h_1 =>
 xNew h_1 (.cells #[(.int .i64 a1_0), (.int .i64 a1_1), (.int .i64 a1_2), (.int .i64 a1_3), (.int .i64 a1_4)] 33 (0, 0)) fun b3 h_2 =>
 oB (h_2.cell ((⟨b2, 0, none⟩ : Addr).add 4)) fun x6 =>
 xSc (!x6) false (fun J_1 =>
 oI .i64 (h_2.cell ((⟨b2, 0, none⟩ : Addr).add 0)) fun x9_0 =>
 oI .i64 (h_2.cell ((⟨b2, 0, none⟩ : Addr).add 1)) fun x9_1 =>
 oI .i64 (h_2.cell ((⟨b2, 0, none⟩ : Addr).add 2)) fun x9_2 =>
 oI .i64 (h_2.cell ((⟨b2, 0, none⟩ : Addr).add 3)) fun x9_3 =>
 oB (h_2.cell ((⟨b2, 0, none⟩ : Addr).add 4)) fun x9_4 =>
 oI .i64 (h_2.cell ((⟨b2, 0, none⟩ : Addr).add 5)) fun x9_5 =>
 oI .i64 (h_2.cell ((⟨b2, 0, none⟩ : Addr).add 6)) fun x9_6 =>
 oI .i64 (h_2.cell ((⟨b2, 0, none⟩ : Addr).add 7)) fun x9_7 =>
 oI .i64 (h_2.cell ((⟨b2, 0, none⟩ : Addr).add 8)) fun x9_8 =>
 oI .i64 (h_2.cell ((⟨b2, 0, none⟩ : Addr).add 9)) fun x9_9 =>
 oI .i64 (h_2.cell ((⟨b2, 0, none⟩ : Addr).add 10)) fun x9_10 =>
 oI .i64 (h_2.cell ((⟨b3, 0, none⟩ : Addr).add 0)) fun x10_0 =>
 oI .i64 (h_2.cell ((⟨b3, 0, none⟩ : Addr).add 1)) fun x10_1 =>
 oI .i64 (h_2.cell ((⟨b3, 0, none⟩ : Addr).add 2)) fun x10_2 =>
 oI .i64 (h_2.cell ((⟨b3, 0, none⟩ : Addr).add 3)) fun x10_3 =>
 oI .i64 (h_2.cell ((⟨b3, 0, none⟩ : Addr).add 4)) fun x10_4 =>
 Meets Try.prog 100 #[(.agg #[(.int .i64 x9_0), (.int .i64 x9_1), (.int .i64 x9_2), (.int .i64 x9_3), (.bool x9_4), (.int .i64 x9_5), (.int .i64 x9_6), (.int .i64 x9_7), (.int .i64 x9_8), (.int .i64 x9_9), (.int .i64 x9_10)]), (.agg #[(.int .i64 x10_0), (.int .i64 x10_1), (.int .i64 x10_2), (.int .i64 x10_3), (.int .i64 x10_4)])] h_2 fun v11 h_3 =>
 oB (some v11) fun x11 =>
 J_1 (!x11) h_3)
 (fun r13 h_4 =>
 xIte r13 (fun J_2 =>
 Q (.bool false) h_4)
 (fun J_2 =>
 J_2 h_4)
 (fun  (h_5 : PH) =>
 oI .i64 (h_5.cell (((⟨b2, 0, none⟩ : Addr).add 0).add 0)) fun x16 =>
 xBlk (fun J_3 =>
 xIte (x16 == 4) (fun J_4 =>
 oI .i64 (h_5.cell ((⟨b2, 0, none⟩ : Addr).add 0)) fun x19_0 =>
 oI .i64 (h_5.cell ((⟨b2, 0, none⟩ : Addr).add 1)) fun x19_1 =>
 oI .i64 (h_5.cell ((⟨b2, 0, none⟩ : Addr).add 2)) fun x19_2 =>
 oI .i64 (h_5.cell ((⟨b2, 0, none⟩ : Addr).add 3)) fun x19_3 =>
 oB (h_5.cell ((⟨b2, 0, none⟩ : Addr).add 4)) fun x19_4 =>
 oI .i64 (h_5.cell ((⟨b2, 0, none⟩ : Addr).add 5)) fun x19_5 =>
 oI .i64 (h_5.cell ((⟨b2, 0, none⟩ : Addr).add 6)) fun x19_6 =>
 oI .i64 (h_5.cell ((⟨b2, 0, none⟩ : Addr).add 7)) fun x19_7 =>
 oI .i64 (h_5.cell ((⟨b2, 0, none⟩ : Addr).add 8)) fun x19_8 =>
 oI .i64 (h_5.cell ((⟨b2, 0, none⟩ : Addr).add 9)) fun x19_9 =>
 oI .i64 (h_5.cell ((⟨b2, 0, none⟩ : Addr).add 10)) fun x19_10 =>
 oI .i64 (h_5.cell ((⟨b3, 0, none⟩ : Addr).add 0)) fun x20_0 =>
 oI .i64 (h_5.cell ((⟨b3, 0, none⟩ : Addr).add 1)) fun x20_1 =>
 oI .i64 (h_5.cell ((⟨b3, 0, none⟩ : Addr).add 2)) fun x20_2 =>
 oI .i64 (h_5.cell ((⟨b3, 0, none⟩ : Addr).add 3)) fun x20_3 =>
 oI .i64 (h_5.cell ((⟨b3, 0, none⟩ : Addr).add 4)) fun x20_4 =>
 Meets Try.prog 101 #[(.agg #[(.int .i64 x19_0), (.int .i64 x19_1), (.int .i64 x19_2), (.int .i64 x19_3), (.bool x19_4), (.int .i64 x19_5), (.int .i64 x19_6), (.int .i64 x19_7), (.int .i64 x19_8), (.int .i64 x19_9), (.int .i64 x19_10)]), (.agg #[(.int .i64 x20_0), (.int .i64 x20_1), (.int .i64 x20_2), (.int .i64 x20_3), (.int .i64 x20_4)])] h_5 fun v21 h_6 =>
 oB (some v21) fun x21 =>
 Q (.bool x21) h_6)
 (fun J_4 =>
 xIte (x16 == 5) (fun J_5 =>
 J_5 (x16 == 5) h_5)
 (fun J_5 =>
 J_5 (x16 == 6) h_5)
 (fun (x22 : Bool) (h_7 : PH) =>
 xIte x22 (fun J_6 =>
 oI .i64 (h_7.cell ((⟨b2, 0, none⟩ : Addr).add 0)) fun x25_0 =>
 oI .i64 (h_7.cell ((⟨b2, 0, none⟩ : Addr).add 1)) fun x25_1 =>
 oI .i64 (h_7.cell ((⟨b2, 0, none⟩ : Addr).add 2)) fun x25_2 =>
 oI .i64 (h_7.cell ((⟨b2, 0, none⟩ : Addr).add 3)) fun x25_3 =>
 oB (h_7.cell ((⟨b2, 0, none⟩ : Addr).add 4)) fun x25_4 =>
 oI .i64 (h_7.cell ((⟨b2, 0, none⟩ : Addr).add 5)) fun x25_5 =>
 oI .i64 (h_7.cell ((⟨b2, 0, none⟩ : Addr).add 6)) fun x25_6 =>
 oI .i64 (h_7.cell ((⟨b2, 0, none⟩ : Addr).add 7)) fun x25_7 =>
 oI .i64 (h_7.cell ((⟨b2, 0, none⟩ : Addr).add 8)) fun x25_8 =>
 oI .i64 (h_7.cell ((⟨b2, 0, none⟩ : Addr).add 9)) fun x25_9 =>
 oI .i64 (h_7.cell ((⟨b2, 0, none⟩ : Addr).add 10)) fun x25_10 =>
 oI .i64 (h_7.cell ((⟨b3, 0, none⟩ : Addr).add 0)) fun x26_0 =>
 oI .i64 (h_7.cell ((⟨b3, 0, none⟩ : Addr).add 1)) fun x26_1 =>
 oI .i64 (h_7.cell ((⟨b3, 0, none⟩ : Addr).add 2)) fun x26_2 =>
 oI .i64 (h_7.cell ((⟨b3, 0, none⟩ : Addr).add 3)) fun x26_3 =>
 oI .i64 (h_7.cell ((⟨b3, 0, none⟩ : Addr).add 4)) fun x26_4 =>
 Meets Try.prog 102 #[(.agg #[(.int .i64 x25_0), (.int .i64 x25_1), (.int .i64 x25_2), (.int .i64 x25_3), (.bool x25_4), (.int .i64 x25_5), (.int .i64 x25_6), (.int .i64 x25_7), (.int .i64 x25_8), (.int .i64 x25_9), (.int .i64 x25_10)]), (.agg #[(.int .i64 x26_0), (.int .i64 x26_1), (.int .i64 x26_2), (.int .i64 x26_3), (.int .i64 x26_4)])] h_7 fun v27 h_8 =>
 oB (some v27) fun x27 =>
 Q (.bool x27) h_8)
 (fun J_6 =>
 J_6 h_7)
 (fun  (h_9 : PH) =>
 J_4 h_9)))
 (fun  (h_10 : PH) =>
 J_3 h_10))
 (fun  (h_11 : PH) =>
 xDraw h_11 fun hs_1 =>
 oI .i64 (hs_1.cell ((⟨b2, 0, none⟩ : Addr).add 5)) fun x29 =>
 xSc (x29 == 0) true (fun J_7 =>
 oI .i64 (hs_1.cell ((⟨b3, 0, none⟩ : Addr).add 0)) fun x33 =>
 oI .i64 (hs_1.cell (((⟨b2, 0, none⟩ : Addr).add 0).add 0)) fun x36 =>
 Meets Try.prog 99 #[(.int .i64 x36)] h_11 fun v37 h_12 =>
 oI .i64 (some v37) fun x37 =>
 PH.le hs_1 h_12 ∧
 J_7 (x33 == x37) h_12)
 (fun r39 h_13 =>
 Q (.bool r39) h_13) h_11))) h_2
theorem P_ghost_thread_takes_eq (a0_0 : Int) (a0_1 : Int) (a0_2 : Int) (a0_3 : Int) (a0_4 : Bool) (a0_5 : Int) (a0_6 : Int) (a0_7 : Int) (a0_8 : Int) (a0_9 : Int) (a0_10 : Int) (a1_0 : Int) (a1_1 : Int) (a1_2 : Int) (a1_3 : Int) (a1_4 : Int) (h : PH) (Q : Value → PH → Prop) : dFn Try.prog Try.f72 A_ghost_thread_takes #[(.agg #[(.int .i64 a0_0), (.int .i64 a0_1), (.int .i64 a0_2), (.int .i64 a0_3), (.bool a0_4), (.int .i64 a0_5), (.int .i64 a0_6), (.int .i64 a0_7), (.int .i64 a0_8), (.int .i64 a0_9), (.int .i64 a0_10)]), (.agg #[(.int .i64 a1_0), (.int .i64 a1_1), (.int .i64 a1_2), (.int .i64 a1_3), (.int .i64 a1_4)])] h Q = P_ghost_thread_takes a0_0 a0_1 a0_2 a0_3 a0_4 a0_5 a0_6 a0_7 a0_8 a0_9 a0_10 a1_0 a1_1 a1_2 a1_3 a1_4 h Q := by kernel_rfl
theorem P_ghost_thread_takes_of {a0_0 : Int} {a0_1 : Int} {a0_2 : Int} {a0_3 : Int} {a0_4 : Bool} {a0_5 : Int} {a0_6 : Int} {a0_7 : Int} {a0_8 : Int} {a0_9 : Int} {a0_10 : Int} {a1_0 : Int} {a1_1 : Int} {a1_2 : Int} {a1_3 : Int} {a1_4 : Int} {h : PH} {Q : Value → PH → Prop} (x : P_ghost_thread_takes a0_0 a0_1 a0_2 a0_3 a0_4 a0_5 a0_6 a0_7 a0_8 a0_9 a0_10 a1_0 a1_1 a1_2 a1_3 a1_4 h Q) : Meets Try.prog 72 #[(.agg #[(.int .i64 a0_0), (.int .i64 a0_1), (.int .i64 a0_2), (.int .i64 a0_3), (.bool a0_4), (.int .i64 a0_5), (.int .i64 a0_6), (.int .i64 a0_7), (.int .i64 a0_8), (.int .i64 a0_9), (.int .i64 a0_10)]), (.agg #[(.int .i64 a1_0), (.int .i64 a1_1), (.int .i64 a1_2), (.int .i64 a1_3), (.int .i64 a1_4)])] h Q :=
  spec_of Try.func72 mix (by kernel_rfl) ((P_ghost_thread_takes_eq a0_0 a0_1 a0_2 a0_3 a0_4 a0_5 a0_6 a0_7 a0_8 a0_9 a0_10 a1_0 a1_1 a1_2 a1_3 a1_4 h Q).symm ▸ x)
/-- (futtock/ghost.thread).told -/
def A_ghost_thread_told : Ann := .seq (.leaf) (.seq (.seq (.leaf) (.cond [] (.seq (.leaf) (.leaf)) (.leaf))) (.seq (.draw [(0, .flt), (1, .flt), (2, .flt), (3, .flt), (4, .flt), (5, .flt), (6, .eff), (7, .flt), (8, .flt)]) (.seq (.seq (.leaf) (.block [] (.seq (.leaf) (.cond [] (.seq (.draw [(0, .flt), (1, .flt), (2, .flt), (3, .flt), (4, .flt), (5, .flt), (6, .flt), (7, .flt), (8, .flt), (9, .flt), (10, .flt), (11, .flt), (12, .flt), (13, .flt), (14, .flt), (15, .flt), (16, .flt), (17, .flt), (18, .flt)]) (.leaf)) (.seq (.leaf) (.cond [] (.seq (.draw [(0, .flt), (1, .flt), (2, .flt), (3, .flt), (4, .flt), (5, .flt), (6, .flt), (7, .flt), (8, .flt), (9, .flt)]) (.leaf)) (.seq (.seq (.leaf) (.cond [(52, .bool)] (.leaf) (.seq (.leaf) (.cond [(52, .bool)] (.leaf) (.leaf))))) (.cond [] (.seq (.draw [(0, .flt), (1, .flt), (2, .flt), (3, .flt), (4, .flt), (5, .flt), (6, .flt), (7, .flt), (8, .flt), (9, .flt)]) (.leaf)) (.leaf))))))))) (.seq (.draw [(0, .flt), (1, .flt), (2, .flt), (3, .flt), (4, .flt), (5, .flt), (6, .flt)]) (.leaf)))))
def P_ghost_thread_told (a0_0 : Int) (a0_1 : Int) (a0_2 : Int) (a0_3 : Int) (a0_4 : Bool) (a0_5 : Int) (a0_6 : Int) (a0_7 : Int) (a0_8 : Int) (a0_9 : Int) (a0_10 : Int) (h : PH) (Q : Value → PH → Prop) : Prop :=
 xNew h (.cells #[(.int .i64 a0_0), (.int .i64 a0_1), (.int .i64 a0_2), (.int .i64 a0_3), (.bool a0_4), (.int .i64 a0_5), (.int .i64 a0_6), (.int .i64 a0_7), (.int .i64 a0_8), (.int .i64 a0_9), (.int .i64 a0_10)] 147 (0, 0)) fun b1 h_1 =>
 oB (h_1.cell ((⟨b1, 0, none⟩ : Addr).add 4)) fun x7 =>
 xSc (!x7) false (fun J_1 =>
 oI .i64 (h_1.cell ((⟨b1, 0, none⟩ : Addr).add 5)) fun x11 =>
 J_1 (x11 == 0) h_1)
 (fun r13 h_2 =>
 xIte r13 (fun J_2 =>
 Q (.tuple #[(.int .i64 0), (.int .i64 0), (.bool false)]) h_2)
 (fun J_2 =>
 J_2 h_2)
 (fun  (h_3 : PH) =>
 xDraw h_3 fun hs_1 =>
 oI .i64 (hs_1.cell (((⟨b1, 0, none⟩ : Addr).add 6).add 0)) fun x16 =>
 oI .i64 (hs_1.cell (((⟨b1, 0, none⟩ : Addr).add 0).add 0)) fun x19 =>
 Meets Try.prog 99 #[(.int .i64 x19)] h_3 fun v20 h_4 =>
 oI .i64 (some v20) fun x20 =>
 PH.le hs_1 h_4 ∧
 oI .i64 (h_4.cell (((⟨b1, 0, none⟩ : Addr).add 0).add 0)) fun x24 =>
 xBlk (fun J_3 =>
 xIte (x24 == 4) (fun J_4 =>
 xDraw h_4 fun hs_2 =>
 oI .i64 (hs_2.cell (((⟨b1, 0, none⟩ : Addr).add 6).add 4)) fun x29 =>
 xSc (x16 == x20) false (fun J_5 =>
 oI .i64 (hs_2.cell (((⟨b1, 0, none⟩ : Addr).add 6).add 0)) fun x34 =>
 xSc (x34 == 4) true (fun J_6 =>
 oI .i64 (hs_2.cell (((⟨b1, 0, none⟩ : Addr).add 6).add 4)) fun x39 =>
 J_6 (x39 != 0) h_4)
 (fun r41 h_5 =>
 J_5 r41 h_5) h_4)
 (fun r42 h_6 =>
 Q (.tuple #[(.int .i64 0), (.int .i64 x29), (.bool r42)]) h_6) h_4)
 (fun J_4 =>
 xIte (x24 == 6) (fun J_7 =>
 xDraw h_4 fun hs_3 =>
 oI .i64 (hs_3.cell ((⟨b1, 0, none⟩ : Addr).add 5)) fun x46 =>
 oI .i64 (hs_3.cell (((⟨b1, 0, none⟩ : Addr).add 6).add 4)) fun x50 =>
 Q (.tuple #[(.int .i64 (IntKind.wrap .i64 (x46 - 1))), (.int .i64 x50), (.bool (x16 == x20))]) h_4)
 (fun J_7 =>
 xIte (x24 == 5) (fun J_8 =>
 J_8 (x24 == 5) h_4)
 (fun J_8 =>
 xIte (x24 == 7) (fun J_9 =>
 J_9 (x24 == 7) h_4)
 (fun J_9 =>
 J_9 (x24 == 8) h_4)
 (fun (x52 : Bool) (h_7 : PH) =>
 J_8 x52 h_7))
 (fun (x52_1 : Bool) (h_8 : PH) =>
 xIte x52_1 (fun J_10 =>
 xDraw h_8 fun hs_4 =>
 oI .i64 (hs_4.cell (((⟨b1, 0, none⟩ : Addr).add 6).add 3)) fun x58 =>
 oI .i64 (hs_4.cell (((⟨b1, 0, none⟩ : Addr).add 6).add 4)) fun x61 =>
 Q (.tuple #[(.int .i64 x58), (.int .i64 x61), (.bool (x16 == x20))]) h_8)
 (fun J_10 =>
 J_10 h_8)
 (fun  (h_9 : PH) =>
 J_7 h_9)))
 (fun  (h_10 : PH) =>
 J_4 h_10))
 (fun  (h_11 : PH) =>
 J_3 h_11))
 (fun  (h_12 : PH) =>
 xDraw h_12 fun hs_5 =>
 oI .i64 (hs_5.cell (((⟨b1, 0, none⟩ : Addr).add 6).add 4)) fun x65 =>
 Q (.tuple #[(.int .i64 0), (.int .i64 x65), (.bool (x16 == x20))]) h_12))) h_1
theorem P_ghost_thread_told_eq (a0_0 : Int) (a0_1 : Int) (a0_2 : Int) (a0_3 : Int) (a0_4 : Bool) (a0_5 : Int) (a0_6 : Int) (a0_7 : Int) (a0_8 : Int) (a0_9 : Int) (a0_10 : Int) (h : PH) (Q : Value → PH → Prop) : dFn Try.prog Try.f73 A_ghost_thread_told #[(.agg #[(.int .i64 a0_0), (.int .i64 a0_1), (.int .i64 a0_2), (.int .i64 a0_3), (.bool a0_4), (.int .i64 a0_5), (.int .i64 a0_6), (.int .i64 a0_7), (.int .i64 a0_8), (.int .i64 a0_9), (.int .i64 a0_10)])] h Q = P_ghost_thread_told a0_0 a0_1 a0_2 a0_3 a0_4 a0_5 a0_6 a0_7 a0_8 a0_9 a0_10 h Q := by kernel_rfl
theorem P_ghost_thread_told_of {a0_0 : Int} {a0_1 : Int} {a0_2 : Int} {a0_3 : Int} {a0_4 : Bool} {a0_5 : Int} {a0_6 : Int} {a0_7 : Int} {a0_8 : Int} {a0_9 : Int} {a0_10 : Int} {h : PH} {Q : Value → PH → Prop} (x : P_ghost_thread_told a0_0 a0_1 a0_2 a0_3 a0_4 a0_5 a0_6 a0_7 a0_8 a0_9 a0_10 h Q) : Meets Try.prog 73 #[(.agg #[(.int .i64 a0_0), (.int .i64 a0_1), (.int .i64 a0_2), (.int .i64 a0_3), (.bool a0_4), (.int .i64 a0_5), (.int .i64 a0_6), (.int .i64 a0_7), (.int .i64 a0_8), (.int .i64 a0_9), (.int .i64 a0_10)])] h Q :=
  spec_of Try.func73 mix (by kernel_rfl) ((P_ghost_thread_told_eq a0_0 a0_1 a0_2 a0_3 a0_4 a0_5 a0_6 a0_7 a0_8 a0_9 a0_10 h Q).symm ▸ x)
/-- slices.Clone[[]futtock/ghost.Entry,futtock/ghost.Entry] -/
def A_slices_Clone_ghost_Entry_ghost_Entry : Ann := .seq (.leaf) (.seq (.seq (.leaf) (.cond [] (.seq (.leaf) (.leaf)) (.leaf))) (.seq (.leaf) (.leaf)))
def P_slices_Clone_ghost_Entry_ghost_Entry (a0a : Option Addr) (a0l : Nat) (a0c : Nat) (h : PH) (Q : Value → PH → Prop) : Prop :=
 xIte (Option.isNone a0a) (fun J_1 =>
 Q (.slice none 0 0) h)
 (fun J_1 =>
 J_1 h)
 (fun  (h_1 : PH) =>
 xNew h_1 (.cells #[] 90 (0, 0)) fun b5 h_2 =>
 xApp h_2 90 13 104 (some (⟨b5, 0, none⟩ : Addr)) 0 0 (.slice a0a a0l a0c) fun x7a x7l x7c h_3 =>
 Q (.slice x7a x7l x7c) h_3)
theorem P_slices_Clone_ghost_Entry_ghost_Entry_eq (a0a : Option Addr) (a0l : Nat) (a0c : Nat) (h : PH) (Q : Value → PH → Prop) : dFn Try.prog Try.f74 A_slices_Clone_ghost_Entry_ghost_Entry #[(.slice a0a a0l a0c)] h Q = P_slices_Clone_ghost_Entry_ghost_Entry a0a a0l a0c h Q := by kernel_rfl
theorem P_slices_Clone_ghost_Entry_ghost_Entry_of {a0a : Option Addr} {a0l : Nat} {a0c : Nat} {h : PH} {Q : Value → PH → Prop} (x : P_slices_Clone_ghost_Entry_ghost_Entry a0a a0l a0c h Q) : Meets Try.prog 74 #[(.slice a0a a0l a0c)] h Q :=
  spec_of Try.func74 mix (by kernel_rfl) ((P_slices_Clone_ghost_Entry_ghost_Entry_eq a0a a0l a0c h Q).symm ▸ x)
/-- futtock/ghost.commitOf -/
def A_ghost_commitOf : Ann := .seq (.leaf) (.seq (.seq (.leaf) (.block [] (.seq (.leaf) (.cond [] (.seq (.leaf) (.leaf)) (.seq (.leaf) (.cond [] (.seq (.leaf) (.leaf)) (.seq (.leaf) (.cond [] (.seq (.leaf) (.leaf)) (.seq (.leaf) (.cond [] (.seq (.leaf) (.leaf)) (.seq (.leaf) (.cond [] (.seq (.leaf) (.leaf)) (.seq (.leaf) (.cond [] (.seq (.leaf) (.leaf)) (.seq (.leaf) (.cond [] (.seq (.leaf) (.leaf)) (.seq (.leaf) (.cond [] (.seq (.leaf) (.leaf)) (.seq (.leaf) (.cond [] (.seq (.leaf) (.leaf)) (.leaf))))))))))))))))))))) (.seq (.leaf) (.leaf)))
def P_ghost_commitOf (a0 : Int) (h : PH) (Q : Value → PH → Prop) : Prop :=
 xBlk (fun J_1 =>
 xIte (a0 == 1) (fun J_2 =>
 Q (.int .i64 1) h)
 (fun J_2 =>
 xIte (a0 == 2) (fun J_3 =>
 Q (.int .i64 2) h)
 (fun J_3 =>
 xIte (a0 == 3) (fun J_4 =>
 Q (.int .i64 3) h)
 (fun J_4 =>
 xIte (a0 == 4) (fun J_5 =>
 Q (.int .i64 6) h)
 (fun J_5 =>
 xIte (a0 == 5) (fun J_6 =>
 Q (.int .i64 8) h)
 (fun J_6 =>
 xIte (a0 == 6) (fun J_7 =>
 Q (.int .i64 9) h)
 (fun J_7 =>
 xIte (a0 == 7) (fun J_8 =>
 Q (.int .i64 10) h)
 (fun J_8 =>
 xIte (a0 == 8) (fun J_9 =>
 Q (.int .i64 11) h)
 (fun J_9 =>
 xIte (a0 == 9) (fun J_10 =>
 Q (.int .i64 12) h)
 (fun J_10 =>
 J_10 h)
 (fun  (h_1 : PH) =>
 J_9 h_1))
 (fun  (h_2 : PH) =>
 J_8 h_2))
 (fun  (h_3 : PH) =>
 J_7 h_3))
 (fun  (h_4 : PH) =>
 J_6 h_4))
 (fun  (h_5 : PH) =>
 J_5 h_5))
 (fun  (h_6 : PH) =>
 J_4 h_6))
 (fun  (h_7 : PH) =>
 J_3 h_7))
 (fun  (h_8 : PH) =>
 J_2 h_8))
 (fun  (h_9 : PH) =>
 J_1 h_9))
 (fun  (h_10 : PH) =>
 Q (.int .i64 0) h_10)
theorem P_ghost_commitOf_eq (a0 : Int) (h : PH) (Q : Value → PH → Prop) : dFn Try.prog Try.f99 A_ghost_commitOf #[(.int .i64 a0)] h Q = P_ghost_commitOf a0 h Q := by kernel_rfl
theorem P_ghost_commitOf_of {a0 : Int} {h : PH} {Q : Value → PH → Prop} (x : P_ghost_commitOf a0 h Q) : Meets Try.prog 99 #[(.int .i64 a0)] h Q :=
  spec_of Try.func99 mix (by kernel_rfl) ((P_ghost_commitOf_eq a0 h Q).symm ▸ x)
/-- (futtock/ghost.thread).of -/
def A_ghost_thread_of : Ann := .seq (.leaf) (.seq (.seq (.leaf) (.cond [] (.seq (.leaf) (.leaf)) (.leaf))) (.seq (.leaf) (.leaf)))
def P_ghost_thread_of (a0_0 : Int) (a0_1 : Int) (a0_2 : Int) (a0_3 : Int) (a0_4 : Bool) (a0_5 : Int) (a0_6 : Int) (a0_7 : Int) (a0_8 : Int) (a0_9 : Int) (a0_10 : Int) (a1_0 : Int) (a1_1 : Int) (a1_2 : Int) (a1_3 : Int) (a1_4 : Int) (h : PH) (Q : Value → PH → Prop) : Prop :=
 xNew h (.cells #[(.int .i64 a0_0), (.int .i64 a0_1), (.int .i64 a0_2), (.int .i64 a0_3), (.bool a0_4), (.int .i64 a0_5), (.int .i64 a0_6), (.int .i64 a0_7), (.int .i64 a0_8), (.int .i64 a0_9), (.int .i64 a0_10)] 147 (0, 0)) fun b2 h_1 =>
 xNew h_1 (.cells #[(.int .i64 a1_0), (.int .i64 a1_1), (.int .i64 a1_2), (.int .i64 a1_3), (.int .i64 a1_4)] 33 (0, 0)) fun b3 h_2 =>
 oI .i64 (h_2.cell (((⟨b2, 0, none⟩ : Addr).add 0).add 0)) fun x7 =>
 xIte (x7 == 9) (fun J_1 =>
 oI .i64 (h_2.cell ((⟨b3, 0, none⟩ : Addr).add 2)) fun x10 =>
 xSc (x10 == 0) true (fun J_2 =>
 oI .i64 (h_2.cell ((⟨b3, 0, none⟩ : Addr).add 3)) fun x14 =>
 oI .i64 (h_2.cell (((⟨b2, 0, none⟩ : Addr).add 0).add 2)) fun x17 =>
 J_2 (x14 == x17) h_2)
 (fun r19 h_3 =>
 Q (.bool r19) h_3) h_2)
 (fun J_1 =>
 J_1 h_2)
 (fun  (h_4 : PH) =>
 oI .i64 (h_4.cell ((⟨b3, 0, none⟩ : Addr).add 2)) fun x21 =>
 oI .i64 (h_4.cell (((⟨b2, 0, none⟩ : Addr).add 0).add 1)) fun x24 =>
 Q (.bool (x21 == x24)) h_4)
theorem P_ghost_thread_of_eq (a0_0 : Int) (a0_1 : Int) (a0_2 : Int) (a0_3 : Int) (a0_4 : Bool) (a0_5 : Int) (a0_6 : Int) (a0_7 : Int) (a0_8 : Int) (a0_9 : Int) (a0_10 : Int) (a1_0 : Int) (a1_1 : Int) (a1_2 : Int) (a1_3 : Int) (a1_4 : Int) (h : PH) (Q : Value → PH → Prop) : dFn Try.prog Try.f100 A_ghost_thread_of #[(.agg #[(.int .i64 a0_0), (.int .i64 a0_1), (.int .i64 a0_2), (.int .i64 a0_3), (.bool a0_4), (.int .i64 a0_5), (.int .i64 a0_6), (.int .i64 a0_7), (.int .i64 a0_8), (.int .i64 a0_9), (.int .i64 a0_10)]), (.agg #[(.int .i64 a1_0), (.int .i64 a1_1), (.int .i64 a1_2), (.int .i64 a1_3), (.int .i64 a1_4)])] h Q = P_ghost_thread_of a0_0 a0_1 a0_2 a0_3 a0_4 a0_5 a0_6 a0_7 a0_8 a0_9 a0_10 a1_0 a1_1 a1_2 a1_3 a1_4 h Q := by kernel_rfl
theorem P_ghost_thread_of_of {a0_0 : Int} {a0_1 : Int} {a0_2 : Int} {a0_3 : Int} {a0_4 : Bool} {a0_5 : Int} {a0_6 : Int} {a0_7 : Int} {a0_8 : Int} {a0_9 : Int} {a0_10 : Int} {a1_0 : Int} {a1_1 : Int} {a1_2 : Int} {a1_3 : Int} {a1_4 : Int} {h : PH} {Q : Value → PH → Prop} (x : P_ghost_thread_of a0_0 a0_1 a0_2 a0_3 a0_4 a0_5 a0_6 a0_7 a0_8 a0_9 a0_10 a1_0 a1_1 a1_2 a1_3 a1_4 h Q) : Meets Try.prog 100 #[(.agg #[(.int .i64 a0_0), (.int .i64 a0_1), (.int .i64 a0_2), (.int .i64 a0_3), (.bool a0_4), (.int .i64 a0_5), (.int .i64 a0_6), (.int .i64 a0_7), (.int .i64 a0_8), (.int .i64 a0_9), (.int .i64 a0_10)]), (.agg #[(.int .i64 a1_0), (.int .i64 a1_1), (.int .i64 a1_2), (.int .i64 a1_3), (.int .i64 a1_4)])] h Q :=
  spec_of Try.func100 mix (by kernel_rfl) ((P_ghost_thread_of_eq a0_0 a0_1 a0_2 a0_3 a0_4 a0_5 a0_6 a0_7 a0_8 a0_9 a0_10 a1_0 a1_1 a1_2 a1_3 a1_4 h Q).symm ▸ x)
/-- (futtock/ghost.thread).waits -/
def A_ghost_thread_waits : Ann := .seq (.leaf) (.seq (.block [] (.seq (.leaf) (.cond [] (.seq (.leaf) (.leaf)) (.seq (.leaf) (.cond [] (.seq (.leaf) (.leaf)) (.leaf)))))) (.seq (.leaf) (.leaf)))
def P_ghost_thread_waits (a0_0 : Int) (a0_1 : Int) (a0_2 : Int) (a0_3 : Int) (a0_4 : Bool) (a0_5 : Int) (a0_6 : Int) (a0_7 : Int) (a0_8 : Int) (a0_9 : Int) (a0_10 : Int) (a1_0 : Int) (a1_1 : Int) (a1_2 : Int) (a1_3 : Int) (a1_4 : Int) (h : PH) (Q : Value → PH → Prop) : Prop :=
 xNew h (.cells #[(.int .i64 a0_0), (.int .i64 a0_1), (.int .i64 a0_2), (.int .i64 a0_3), (.bool a0_4), (.int .i64 a0_5), (.int .i64 a0_6), (.int .i64 a0_7), (.int .i64 a0_8), (.int .i64 a0_9), (.int .i64 a0_10)] 147 (0, 0)) fun b2 h_1 =>
 xNew h_1 (.cells #[(.int .i64 a1_0), (.int .i64 a1_1), (.int .i64 a1_2), (.int .i64 a1_3), (.int .i64 a1_4)] 33 (0, 0)) fun b3 h_2 =>
 xBlk (fun J_1 =>
 oI .i64 (h_2.cell ((⟨b2, 0, none⟩ : Addr).add 5)) fun x7 =>
 xIte (x7 == 0) (fun J_2 =>
 oI .i64 (h_2.cell ((⟨b3, 0, none⟩ : Addr).add 0)) fun x10 =>
 Q (.bool (x10 == 4)) h_2)
 (fun J_2 =>
 oI .i64 (h_2.cell (((⟨b2, 0, none⟩ : Addr).add 6).add 0)) fun x15 =>
 xSc (x15 == 4) true (fun J_3 =>
 oI .i64 (h_2.cell (((⟨b2, 0, none⟩ : Addr).add 6).add 4)) fun x20 =>
 J_3 (x20 == 0) h_2)
 (fun r22 h_3 =>
 xIte r22 (fun J_4 =>
 oI .i64 (h_3.cell ((⟨b3, 0, none⟩ : Addr).add 0)) fun x24 =>
 xSc (x24 == 5) false (fun J_5 =>
 oI .i64 (h_3.cell ((⟨b3, 0, none⟩ : Addr).add 0)) fun x28 =>
 J_5 (x28 == 6) h_3)
 (fun r30 h_4 =>
 Q (.bool r30) h_4) h_3)
 (fun J_4 =>
 J_4 h_3)
 (fun  (h_5 : PH) =>
 J_2 h_5)) h_2)
 (fun  (h_6 : PH) =>
 J_1 h_6))
 (fun  (h_7 : PH) =>
 oI .i64 (h_7.cell (((⟨b2, 0, none⟩ : Addr).add 6).add 0)) fun x33 =>
 xSc (x33 == 5) true (fun J_6 =>
 oI .i64 (h_7.cell ((⟨b3, 0, none⟩ : Addr).add 0)) fun x37 =>
 J_6 (x37 == 6) h_7)
 (fun r39 h_8 =>
 Q (.bool r39) h_8) h_7)
theorem P_ghost_thread_waits_eq (a0_0 : Int) (a0_1 : Int) (a0_2 : Int) (a0_3 : Int) (a0_4 : Bool) (a0_5 : Int) (a0_6 : Int) (a0_7 : Int) (a0_8 : Int) (a0_9 : Int) (a0_10 : Int) (a1_0 : Int) (a1_1 : Int) (a1_2 : Int) (a1_3 : Int) (a1_4 : Int) (h : PH) (Q : Value → PH → Prop) : dFn Try.prog Try.f101 A_ghost_thread_waits #[(.agg #[(.int .i64 a0_0), (.int .i64 a0_1), (.int .i64 a0_2), (.int .i64 a0_3), (.bool a0_4), (.int .i64 a0_5), (.int .i64 a0_6), (.int .i64 a0_7), (.int .i64 a0_8), (.int .i64 a0_9), (.int .i64 a0_10)]), (.agg #[(.int .i64 a1_0), (.int .i64 a1_1), (.int .i64 a1_2), (.int .i64 a1_3), (.int .i64 a1_4)])] h Q = P_ghost_thread_waits a0_0 a0_1 a0_2 a0_3 a0_4 a0_5 a0_6 a0_7 a0_8 a0_9 a0_10 a1_0 a1_1 a1_2 a1_3 a1_4 h Q := by kernel_rfl
theorem P_ghost_thread_waits_of {a0_0 : Int} {a0_1 : Int} {a0_2 : Int} {a0_3 : Int} {a0_4 : Bool} {a0_5 : Int} {a0_6 : Int} {a0_7 : Int} {a0_8 : Int} {a0_9 : Int} {a0_10 : Int} {a1_0 : Int} {a1_1 : Int} {a1_2 : Int} {a1_3 : Int} {a1_4 : Int} {h : PH} {Q : Value → PH → Prop} (x : P_ghost_thread_waits a0_0 a0_1 a0_2 a0_3 a0_4 a0_5 a0_6 a0_7 a0_8 a0_9 a0_10 a1_0 a1_1 a1_2 a1_3 a1_4 h Q) : Meets Try.prog 101 #[(.agg #[(.int .i64 a0_0), (.int .i64 a0_1), (.int .i64 a0_2), (.int .i64 a0_3), (.bool a0_4), (.int .i64 a0_5), (.int .i64 a0_6), (.int .i64 a0_7), (.int .i64 a0_8), (.int .i64 a0_9), (.int .i64 a0_10)]), (.agg #[(.int .i64 a1_0), (.int .i64 a1_1), (.int .i64 a1_2), (.int .i64 a1_3), (.int .i64 a1_4)])] h Q :=
  spec_of Try.func101 mix (by kernel_rfl) ((P_ghost_thread_waits_eq a0_0 a0_1 a0_2 a0_3 a0_4 a0_5 a0_6 a0_7 a0_8 a0_9 a0_10 a1_0 a1_1 a1_2 a1_3 a1_4 h Q).symm ▸ x)
/-- (futtock/ghost.thread).tells -/
def A_ghost_thread_tells : Ann := .seq (.leaf) (.seq (.leaf) (.seq (.block [] (.seq (.leaf) (.cond [] (.seq (.leaf) (.leaf)) (.seq (.leaf) (.cond [] (.seq (.leaf) (.leaf)) (.seq (.draw [(0, .flt), (1, .flt), (2, .flt), (3, .flt), (4, .flt), (5, .eff), (6, .flt), (7, .flt)]) (.cond [] (.seq (.leaf) (.leaf)) (.seq (.leaf) (.cond [] (.seq (.leaf) (.leaf)) (.seq (.leaf) (.cond [] (.seq (.leaf) (.leaf)) (.leaf)))))))))))) (.seq (.leaf) (.leaf))))
def P_ghost_thread_tells (a0_0 : Int) (a0_1 : Int) (a0_2 : Int) (a0_3 : Int) (a0_4 : Bool) (a0_5 : Int) (a0_6 : Int) (a0_7 : Int) (a0_8 : Int) (a0_9 : Int) (a0_10 : Int) (a1_0 : Int) (a1_1 : Int) (a1_2 : Int) (a1_3 : Int) (a1_4 : Int) (h : PH) (Q : Value → PH → Prop) : Prop :=
 xNew h (.cells #[(.int .i64 a0_0), (.int .i64 a0_1), (.int .i64 a0_2), (.int .i64 a0_3), (.bool a0_4), (.int .i64 a0_5), (.int .i64 a0_6), (.int .i64 a0_7), (.int .i64 a0_8), (.int .i64 a0_9), (.int .i64 a0_10)] 147 (0, 0)) fun b2 h_1 =>
 xNew h_1 (.cells #[(.int .i64 a1_0), (.int .i64 a1_1), (.int .i64 a1_2), (.int .i64 a1_3), (.int .i64 a1_4)] 33 (0, 0)) fun b3 h_2 =>
 oI .i64 (h_2.cell ((⟨b2, 0, none⟩ : Addr).add 5)) fun x7 =>
 xBlk (fun J_1 =>
 xSc (decide ((x7 : Int) > 0)) true (fun J_2 =>
 oI .i64 (h_2.cell (((⟨b2, 0, none⟩ : Addr).add 6).add 0)) fun x14 =>
 J_2 (x14 != 7) h_2)
 (fun r16 h_3 =>
 xIte r16 (fun J_3 =>
 Q (.bool false) h_3)
 (fun J_3 =>
 oI .i64 (h_3.cell ((⟨b3, 0, none⟩ : Addr).add 0)) fun x19 =>
 xIte (x19 == 7) (fun J_4 =>
 oI .i64 (h_3.cell (((⟨b2, 0, none⟩ : Addr).add 0).add 0)) fun x23 =>
 xSc (x23 == 6) false (fun J_5 =>
 J_5 (!(decide ((x7 : Int) > 0))) h_3)
 (fun r28 h_4 =>
 Q (.bool r28) h_4) h_3)
 (fun J_4 =>
 xDraw h_3 fun hs_1 =>
 oI .i64 (hs_1.cell ((⟨b3, 0, none⟩ : Addr).add 0)) fun x31 =>
 oI .i64 (hs_1.cell (((⟨b2, 0, none⟩ : Addr).add 0).add 0)) fun x34 =>
 Meets Try.prog 99 #[(.int .i64 x34)] h_3 fun v35 h_5 =>
 oI .i64 (some v35) fun x35 =>
 PH.le hs_1 h_5 ∧
 xIte (x31 != x35) (fun J_6 =>
 Q (.bool false) h_5)
 (fun J_6 =>
 oI .i64 (h_5.cell (((⟨b2, 0, none⟩ : Addr).add 0).add 0)) fun x40 =>
 xIte (x40 == 6) (fun J_7 =>
 Q (.bool true) h_5)
 (fun J_7 =>
 xIte (decide ((x7 : Int) > 0)) (fun J_8 =>
 oI .i64 (h_5.cell ((⟨b3, 0, none⟩ : Addr).add 3)) fun x45 =>
 oI .i64 (h_5.cell (((⟨b2, 0, none⟩ : Addr).add 6).add 3)) fun x48 =>
 Q (.bool (x45 == x48)) h_5)
 (fun J_8 =>
 J_8 h_5)
 (fun  (h_6 : PH) =>
 J_7 h_6))
 (fun  (h_7 : PH) =>
 J_6 h_7))
 (fun  (h_8 : PH) =>
 J_4 h_8))
 (fun  (h_9 : PH) =>
 J_3 h_9))
 (fun  (h_10 : PH) =>
 J_1 h_10)) h_2)
 (fun  (h_11 : PH) =>
 oI .i64 (h_11.cell ((⟨b3, 0, none⟩ : Addr).add 3)) fun x51 =>
 Q (.bool (x51 == (-1))) h_11)
theorem P_ghost_thread_tells_eq (a0_0 : Int) (a0_1 : Int) (a0_2 : Int) (a0_3 : Int) (a0_4 : Bool) (a0_5 : Int) (a0_6 : Int) (a0_7 : Int) (a0_8 : Int) (a0_9 : Int) (a0_10 : Int) (a1_0 : Int) (a1_1 : Int) (a1_2 : Int) (a1_3 : Int) (a1_4 : Int) (h : PH) (Q : Value → PH → Prop) : dFn Try.prog Try.f102 A_ghost_thread_tells #[(.agg #[(.int .i64 a0_0), (.int .i64 a0_1), (.int .i64 a0_2), (.int .i64 a0_3), (.bool a0_4), (.int .i64 a0_5), (.int .i64 a0_6), (.int .i64 a0_7), (.int .i64 a0_8), (.int .i64 a0_9), (.int .i64 a0_10)]), (.agg #[(.int .i64 a1_0), (.int .i64 a1_1), (.int .i64 a1_2), (.int .i64 a1_3), (.int .i64 a1_4)])] h Q = P_ghost_thread_tells a0_0 a0_1 a0_2 a0_3 a0_4 a0_5 a0_6 a0_7 a0_8 a0_9 a0_10 a1_0 a1_1 a1_2 a1_3 a1_4 h Q := by kernel_rfl
theorem P_ghost_thread_tells_of {a0_0 : Int} {a0_1 : Int} {a0_2 : Int} {a0_3 : Int} {a0_4 : Bool} {a0_5 : Int} {a0_6 : Int} {a0_7 : Int} {a0_8 : Int} {a0_9 : Int} {a0_10 : Int} {a1_0 : Int} {a1_1 : Int} {a1_2 : Int} {a1_3 : Int} {a1_4 : Int} {h : PH} {Q : Value → PH → Prop} (x : P_ghost_thread_tells a0_0 a0_1 a0_2 a0_3 a0_4 a0_5 a0_6 a0_7 a0_8 a0_9 a0_10 a1_0 a1_1 a1_2 a1_3 a1_4 h Q) : Meets Try.prog 102 #[(.agg #[(.int .i64 a0_0), (.int .i64 a0_1), (.int .i64 a0_2), (.int .i64 a0_3), (.bool a0_4), (.int .i64 a0_5), (.int .i64 a0_6), (.int .i64 a0_7), (.int .i64 a0_8), (.int .i64 a0_9), (.int .i64 a0_10)]), (.agg #[(.int .i64 a1_0), (.int .i64 a1_1), (.int .i64 a1_2), (.int .i64 a1_3), (.int .i64 a1_4)])] h Q :=
  spec_of Try.func102 mix (by kernel_rfl) ((P_ghost_thread_tells_eq a0_0 a0_1 a0_2 a0_3 a0_4 a0_5 a0_6 a0_7 a0_8 a0_9 a0_10 a1_0 a1_1 a1_2 a1_3 a1_4 h Q).symm ▸ x)
/-- futtock/futtocklaw15.alive -/
def A_law15_alive : Ann := .seq (.leaf) (.seq (.leaf) (.seq (.seq (.leaf) (.cond [] (.seq (.leaf) (.leaf)) (.leaf))) (.seq (.leaf) (.seq (.leaf) (.seq (.leaf) (.seq (.leaf) (.seq (.leaf) (.leaf))))))))
def P_law15_alive  (h : PH) (Q : Value → PH → Prop) : Prop :=
 Meets Try.prog 39 #[(.int .i64 2), (.int .i64 1), (.int .i64 3)] h fun v8 h_1 =>
 oTup v8 2 fun x8cs =>
 oIx x8cs[0]? fun x8w =>
 oP (some x8w) fun x8_0 =>
 oIx x8cs[1]? fun x8w_1 =>
 oI .i64 (some x8w_1) fun x8_1 =>
 oP (some (.pointer x8_0)) fun x9 =>
 oI .i64 (some (.int .i64 x8_1)) fun x10 =>
 xSc (Option.isNone x9) false (fun J_1 =>
 J_1 (x10 != 0) h_1)
 (fun r16 h_2 =>
 xIte r16 (fun J_2 =>
 Q (.bool false) h_2)
 (fun J_2 =>
 J_2 h_2)
 (fun  (h_3 : PH) =>
 Meets Try.prog 40 #[(.pointer x9), (.agg #[(.int .i64 1), (.int .i64 0), (.int .i64 0), (.int .i64 3), (.int .i64 0), (.int .i64 0), (.int .i64 0), (.int .i64 0), (.int .i64 0), (.int .i64 0), (.int .i64 0), (.int .i64 0), (.int .i64 0)])] h_3 fun v20 h_4 =>
 oI .i64 (some v20) fun x20 =>
 Meets Try.prog 40 #[(.pointer x9), (.agg #[(.int .i64 3), (.int .i64 0), (.int .i64 0), (.int .i64 0), (.int .i64 0), (.int .i64 0), (.int .i64 0), (.int .i64 0), (.int .i64 0), (.int .i64 0), (.int .i64 0), (.int .i64 0), (.int .i64 9)])] h_4 fun v23 h_5 =>
 oI .i64 (some v23) fun x23 =>
 Meets Try.prog 40 #[(.pointer x9), (.agg #[(.int .i64 2), (.int .i64 0), (.int .i64 0), (.int .i64 0), (.int .i64 0), (.int .i64 0), (.int .i64 3), (.int .i64 0), (.int .i64 0), (.int .i64 0), (.int .i64 9), (.int .i64 0), (.int .i64 0)])] h_5 fun v27 h_6 =>
 oI .i64 (some v27) fun x27 =>
 Meets Try.prog 40 #[(.pointer x9), (.agg #[(.int .i64 3), (.int .i64 0), (.int .i64 0), (.int .i64 0), (.int .i64 0), (.int .i64 0), (.int .i64 0), (.int .i64 0), (.int .i64 0), (.int .i64 0), (.int .i64 0), (.int .i64 0), (.int .i64 9)])] h_6 fun v30 h_7 =>
 oI .i64 (some v30) fun x30 =>
 xSc (x20 == 0) true (fun J_3 =>
 J_3 (x23 == 15) h_7)
 (fun r36 h_8 =>
 xSc r36 true (fun J_4 =>
 J_4 (x27 == 0) h_8)
 (fun r40 h_9 =>
 xSc r40 true (fun J_5 =>
 J_5 (x30 == 0) h_9)
 (fun r44 h_10 =>
 xSc r44 true (fun J_6 =>
 Meets Try.prog 43 #[(.pointer x9)] h_10 fun v47 h_11 =>
 oI .i64 (some v47) fun x47 =>
 J_6 (x47 == 3) h_11)
 (fun r49 h_12 =>
 Q (.bool r49) h_12) h_10) h_9) h_8) h_7)) h_1
theorem P_law15_alive_eq  (h : PH) (Q : Value → PH → Prop) : dFn Try.prog Try.f38 A_law15_alive #[] h Q = P_law15_alive  h Q := by kernel_rfl
theorem P_law15_alive_of  {h : PH} {Q : Value → PH → Prop} (x : P_law15_alive  h Q) : Meets Try.prog 38 #[] h Q :=
  spec_of Try.func38 mix (by kernel_rfl) ((P_law15_alive_eq  h Q).symm ▸ x)
/-- futtock/futtocklaw15.theirs -/
def A_law15_theirs : Ann := .seq (.leaf) (.seq (.leaf) (.seq (.leaf) (.leaf)))
def P_law15_theirs (a0_0 : Int) (a0_1 : Int) (a0_2 : Int) (a0_3 : Int) (a0_4 : Int) (a0_5 : Int) (a0_6 : Int) (a0_7 : Int) (a0_8 : Int) (a0_9 : Int) (a0_10 : Int) (a0_11 : Int) (a0_12 : Int) (h : PH) (Q : Value → PH → Prop) : Prop :=
 xNew h (.cells #[(.int .i64 a0_0), (.int .i64 a0_1), (.int .i64 a0_2), (.int .i64 a0_3), (.int .i64 a0_4), (.int .i64 a0_5), (.int .i64 a0_6), (.int .i64 a0_7), (.int .i64 a0_8), (.int .i64 a0_9), (.int .i64 a0_10), (.int .i64 a0_11), (.int .i64 a0_12)] 88 (0, 0)) fun b1 h_1 =>
 xNew h_1 (.cells #[(.int .i64 0), (.int .i64 0), (.int .i64 0), (.int .i64 0), (.int .i64 0), (.int .i64 0), (.int .i64 0), (.int .i64 0), (.int .i64 0), (.int .i64 0), (.int .i64 0), (.int .i64 0), (.int .i64 0)] 90 (0, 0)) fun b2 h_2 =>
 oI .i64 (h_2.cell (((⟨b1, 0, none⟩ : Addr).add 6).add 0)) fun x5_0 =>
 oI .i64 (h_2.cell (((⟨b1, 0, none⟩ : Addr).add 6).add 1)) fun x5_1 =>
 oI .i64 (h_2.cell (((⟨b1, 0, none⟩ : Addr).add 6).add 2)) fun x5_2 =>
 oI .i64 (h_2.cell (((⟨b1, 0, none⟩ : Addr).add 6).add 3)) fun x5_3 =>
 oI .i64 (h_2.cell (((⟨b1, 0, none⟩ : Addr).add 6).add 4)) fun x5_4 =>
 xNew h_2 (.cells #[(.int .i64 0), (.int .i64 0), (.int .i64 0), (.int .i64 0), (.int .i64 0)] 29 (0, 0)) fun b3 h_3 =>
 xSt 5 h_3 (⟨b3, 0, none⟩ : Addr) [(.int .i64 x5_0), (.int .i64 x5_1), (.int .i64 x5_2), (.int .i64 x5_3), (.int .i64 x5_4)] fun h_4 =>
 oI .i64 (h_4.cell ((⟨b1, 0, none⟩ : Addr).add 0)) fun x7 =>
 oI .i64 (h_4.cell ((⟨b1, 0, none⟩ : Addr).add 1)) fun x9 =>
 oI .i64 (h_4.cell ((⟨b1, 0, none⟩ : Addr).add 2)) fun x11 =>
 oI .i64 (h_4.cell (((⟨b1, 0, none⟩ : Addr).add 3).add 0)) fun x13_0 =>
 oI .i64 (h_4.cell (((⟨b1, 0, none⟩ : Addr).add 3).add 1)) fun x13_1 =>
 oI .i64 (h_4.cell (((⟨b1, 0, none⟩ : Addr).add 3).add 2)) fun x13_2 =>
 oI .i64 (h_4.cell ((⟨b3, 0, none⟩ : Addr).add 0)) fun x15 =>
 oI .i64 (h_4.cell ((⟨b3, 0, none⟩ : Addr).add 1)) fun x17 =>
 oI .i64 (h_4.cell ((⟨b3, 0, none⟩ : Addr).add 2)) fun x19 =>
 oI .i64 (h_4.cell ((⟨b3, 0, none⟩ : Addr).add 3)) fun x21 =>
 oI .i64 (h_4.cell ((⟨b3, 0, none⟩ : Addr).add 4)) fun x23 =>
 oI .i64 (h_4.cell ((⟨b1, 0, none⟩ : Addr).add 11)) fun x26 =>
 oI .i64 (h_4.cell ((⟨b1, 0, none⟩ : Addr).add 12)) fun x28 =>
 xSt 13 h_4 (⟨b2, 0, none⟩ : Addr) [(.int .i64 x7), (.int .i64 x9), (.int .i64 x11), (.int .i64 x13_0), (.int .i64 x13_1), (.int .i64 x13_2), (.int .i64 x15), (.int .i64 x17), (.int .i64 x19), (.int .i64 x21), (.int .i64 x23), (.int .i64 x26), (.int .i64 x28)] fun h_5 =>
 oI .i64 (h_5.cell ((⟨b2, 0, none⟩ : Addr).add 0)) fun y2_0 =>
 oI .i64 (h_5.cell ((⟨b2, 0, none⟩ : Addr).add 1)) fun y2_1 =>
 oI .i64 (h_5.cell ((⟨b2, 0, none⟩ : Addr).add 2)) fun y2_2 =>
 oI .i64 (h_5.cell ((⟨b2, 0, none⟩ : Addr).add 3)) fun y2_3 =>
 oI .i64 (h_5.cell ((⟨b2, 0, none⟩ : Addr).add 4)) fun y2_4 =>
 oI .i64 (h_5.cell ((⟨b2, 0, none⟩ : Addr).add 5)) fun y2_5 =>
 oI .i64 (h_5.cell ((⟨b2, 0, none⟩ : Addr).add 6)) fun y2_6 =>
 oI .i64 (h_5.cell ((⟨b2, 0, none⟩ : Addr).add 7)) fun y2_7 =>
 oI .i64 (h_5.cell ((⟨b2, 0, none⟩ : Addr).add 8)) fun y2_8 =>
 oI .i64 (h_5.cell ((⟨b2, 0, none⟩ : Addr).add 9)) fun y2_9 =>
 oI .i64 (h_5.cell ((⟨b2, 0, none⟩ : Addr).add 10)) fun y2_10 =>
 oI .i64 (h_5.cell ((⟨b2, 0, none⟩ : Addr).add 11)) fun y2_11 =>
 oI .i64 (h_5.cell ((⟨b2, 0, none⟩ : Addr).add 12)) fun y2_12 =>
 Q (.agg #[(.int .i64 y2_0), (.int .i64 y2_1), (.int .i64 y2_2), (.int .i64 y2_3), (.int .i64 y2_4), (.int .i64 y2_5), (.int .i64 y2_6), (.int .i64 y2_7), (.int .i64 y2_8), (.int .i64 y2_9), (.int .i64 y2_10), (.int .i64 y2_11), (.int .i64 y2_12)]) h_5
theorem P_law15_theirs_eq (a0_0 : Int) (a0_1 : Int) (a0_2 : Int) (a0_3 : Int) (a0_4 : Int) (a0_5 : Int) (a0_6 : Int) (a0_7 : Int) (a0_8 : Int) (a0_9 : Int) (a0_10 : Int) (a0_11 : Int) (a0_12 : Int) (h : PH) (Q : Value → PH → Prop) : dFn Try.prog Try.f35 A_law15_theirs #[(.agg #[(.int .i64 a0_0), (.int .i64 a0_1), (.int .i64 a0_2), (.int .i64 a0_3), (.int .i64 a0_4), (.int .i64 a0_5), (.int .i64 a0_6), (.int .i64 a0_7), (.int .i64 a0_8), (.int .i64 a0_9), (.int .i64 a0_10), (.int .i64 a0_11), (.int .i64 a0_12)])] h Q = P_law15_theirs a0_0 a0_1 a0_2 a0_3 a0_4 a0_5 a0_6 a0_7 a0_8 a0_9 a0_10 a0_11 a0_12 h Q := by kernel_rfl
theorem P_law15_theirs_of {a0_0 : Int} {a0_1 : Int} {a0_2 : Int} {a0_3 : Int} {a0_4 : Int} {a0_5 : Int} {a0_6 : Int} {a0_7 : Int} {a0_8 : Int} {a0_9 : Int} {a0_10 : Int} {a0_11 : Int} {a0_12 : Int} {h : PH} {Q : Value → PH → Prop} (x : P_law15_theirs a0_0 a0_1 a0_2 a0_3 a0_4 a0_5 a0_6 a0_7 a0_8 a0_9 a0_10 a0_11 a0_12 h Q) : Meets Try.prog 35 #[(.agg #[(.int .i64 a0_0), (.int .i64 a0_1), (.int .i64 a0_2), (.int .i64 a0_3), (.int .i64 a0_4), (.int .i64 a0_5), (.int .i64 a0_6), (.int .i64 a0_7), (.int .i64 a0_8), (.int .i64 a0_9), (.int .i64 a0_10), (.int .i64 a0_11), (.int .i64 a0_12)])] h Q :=
  spec_of Try.func35 mix (by kernel_rfl) ((P_law15_theirs_eq a0_0 a0_1 a0_2 a0_3 a0_4 a0_5 a0_6 a0_7 a0_8 a0_9 a0_10 a0_11 a0_12 h Q).symm ▸ x)
/-- futtock/futtocklaw15.GhostNobody -/
def A_law15_GhostNobody : Ann := .seq (.leaf) (.seq (.seq (.leaf) (.block [] (.loop [(15, (.int .i64))] (.seq (.leaf) (.seq (.cond [] (.leaf) (.leaf)) (.seq (.block [] (.seq (.leaf) (.seq (.leaf) (.seq (.leaf) (.cond [] (.seq (.leaf) (.leaf)) (.leaf)))))) (.leaf))))))) (.seq (.leaf) (.seq (.seq (.leaf) (.cond [] (.seq (.leaf) (.leaf)) (.leaf))) (.seq (.leaf) (.seq (.seq (.leaf) (.cond [] (.seq (.leaf) (.leaf)) (.leaf))) (.seq (.leaf) (.seq (.leaf) (.seq (.leaf) (.seq (.leaf) (.leaf))))))))))
def P_law15_GhostNobody (a0_0 : Int) (a0_1 : Int) (a0_2 : Int) (a0_3 : Int) (a0_4 : Int) (a0_5 : Int) (a0_6 : Int) (a0_7 : Int) (a0_8 : Int) (a0_9 : Int) (a0_10 : Int) (a0_11 : Int) (a0_12 : Int) (h : PH) (Q : Value → PH → Prop) : Prop :=
 xNew h (.cells #[(.int .i64 a0_0), (.int .i64 a0_1), (.int .i64 a0_2), (.int .i64 a0_3), (.int .i64 a0_4), (.int .i64 a0_5), (.int .i64 a0_6), (.int .i64 a0_7), (.int .i64 a0_8), (.int .i64 a0_9), (.int .i64 a0_10), (.int .i64 a0_11), (.int .i64 a0_12)] 88 (0, 0)) fun b1 h_1 =>
 xNew h_1 (.cells #[(.int .i64 0), (.pointer none), (.slice none 0 0), (.slice none 0 0)] 109 (0, 0)) fun b12 h_2 =>
 xNew h_2 (.cells #[(.pointer none), (.pointer (some (⟨b12, 0, none⟩ : Addr)))] 99 (0, 0)) fun b13 h_3 =>
 xBlk (fun J_1 =>
 ∃ n, xLoopN (fun _ _ => False) (fun J_2 =>
 (fun (x15 : Int) (h_4 : PH) =>
 xIte (decide ((x15 : Int) < ((2 : Nat) : Int))) (fun J_3 =>
 J_3 h_4)
 (fun J_3 =>
 J_1 h_4)
 (fun  (h_5 : PH) =>
 xBlk (fun J_4 =>
 xIdx (some (⟨b13, 0, none⟩ : Addr)) 2 x15 1 fun x17 =>
 oP (h_5.cell x17) fun x18 =>
 oI .i64 (h_5.cell ((⟨b1, 0, none⟩ : Addr).add 1)) fun x22 =>
 Meets Try.prog 42 #[(.pointer x18), (.int .i64 x22)] h_5 fun v23 h_6 =>
 oTup v23 2 fun x23cs =>
 oIx x23cs[0]? fun x23w =>
 oAgg x23w 3 fun x23_0cs =>
 oI .i64 x23_0cs[0]? fun x23_0_0 =>
 oI .i64 x23_0cs[1]? fun x23_0_1 =>
 oI .i64 x23_0cs[2]? fun x23_0_2 =>
 oIx x23cs[1]? fun x23w_1 =>
 oB (some x23w_1) fun x23_1 =>
 oAgg (.agg #[(.int .i64 x23_0_0), (.int .i64 x23_0_1), (.int .i64 x23_0_2)]) 3 fun x24cs =>
 oI .i64 x24cs[0]? fun x24_0 =>
 oI .i64 x24cs[1]? fun x24_1 =>
 oI .i64 x24cs[2]? fun x24_2 =>
 oB (some (.bool x23_1)) fun x25 =>
 xNew h_6 (.cells #[(.int .i64 0), (.int .i64 0), (.int .i64 0)] 86 (0, 0)) fun b5 h_7 =>
 xSt 3 h_7 (⟨b5, 0, none⟩ : Addr) [(.int .i64 x24_0), (.int .i64 x24_1), (.int .i64 x24_2)] fun h_8 =>
 oI .i64 (h_8.cell ((⟨b1, 0, none⟩ : Addr).add 0)) fun x27_0 =>
 oI .i64 (h_8.cell ((⟨b1, 0, none⟩ : Addr).add 1)) fun x27_1 =>
 oI .i64 (h_8.cell ((⟨b1, 0, none⟩ : Addr).add 2)) fun x27_2 =>
 oI .i64 (h_8.cell ((⟨b1, 0, none⟩ : Addr).add 3)) fun x27_3 =>
 oI .i64 (h_8.cell ((⟨b1, 0, none⟩ : Addr).add 4)) fun x27_4 =>
 oI .i64 (h_8.cell ((⟨b1, 0, none⟩ : Addr).add 5)) fun x27_5 =>
 oI .i64 (h_8.cell ((⟨b1, 0, none⟩ : Addr).add 6)) fun x27_6 =>
 oI .i64 (h_8.cell ((⟨b1, 0, none⟩ : Addr).add 7)) fun x27_7 =>
 oI .i64 (h_8.cell ((⟨b1, 0, none⟩ : Addr).add 8)) fun x27_8 =>
 oI .i64 (h_8.cell ((⟨b1, 0, none⟩ : Addr).add 9)) fun x27_9 =>
 oI .i64 (h_8.cell ((⟨b1, 0, none⟩ : Addr).add 10)) fun x27_10 =>
 oI .i64 (h_8.cell ((⟨b1, 0, none⟩ : Addr).add 11)) fun x27_11 =>
 oI .i64 (h_8.cell ((⟨b1, 0, none⟩ : Addr).add 12)) fun x27_12 =>
 Meets Try.prog 35 #[(.agg #[(.int .i64 x27_0), (.int .i64 x27_1), (.int .i64 x27_2), (.int .i64 x27_3), (.int .i64 x27_4), (.int .i64 x27_5), (.int .i64 x27_6), (.int .i64 x27_7), (.int .i64 x27_8), (.int .i64 x27_9), (.int .i64 x27_10), (.int .i64 x27_11), (.int .i64 x27_12)])] h_8 fun v28 h_9 =>
 oAgg v28 13 fun x28cs =>
 oI .i64 x28cs[0]? fun x28_0 =>
 oI .i64 x28cs[1]? fun x28_1 =>
 oI .i64 x28cs[2]? fun x28_2 =>
 oI .i64 x28cs[3]? fun x28_3 =>
 oI .i64 x28cs[4]? fun x28_4 =>
 oI .i64 x28cs[5]? fun x28_5 =>
 oI .i64 x28cs[6]? fun x28_6 =>
 oI .i64 x28cs[7]? fun x28_7 =>
 oI .i64 x28cs[8]? fun x28_8 =>
 oI .i64 x28cs[9]? fun x28_9 =>
 oI .i64 x28cs[10]? fun x28_10 =>
 oI .i64 x28cs[11]? fun x28_11 =>
 oI .i64 x28cs[12]? fun x28_12 =>
 Meets Try.prog 40 #[(.pointer x18), (.agg #[(.int .i64 x28_0), (.int .i64 x28_1), (.int .i64 x28_2), (.int .i64 x28_3), (.int .i64 x28_4), (.int .i64 x28_5), (.int .i64 x28_6), (.int .i64 x28_7), (.int .i64 x28_8), (.int .i64 x28_9), (.int .i64 x28_10), (.int .i64 x28_11), (.int .i64 x28_12)])] h_9 fun v29 h_10 =>
 oI .i64 (some v29) fun x29 =>
 xSc (x29 != 2) false (fun J_5 =>
 Meets Try.prog 41 #[(.pointer x18)] h_10 fun v33 h_11 =>
 oS (some v33) fun x33a x33l x33c =>
 Meets Try.prog 43 #[(.pointer x18)] h_11 fun v36 h_12 =>
 oI .i64 (some v36) fun x36 =>
 J_5 ((IntKind.wrap .i64 (((x33l : Nat) : Int) + x36)) != 0) h_12)
 (fun r39 h_13 =>
 xSc r39 false (fun J_6 =>
 oI .i64 (h_13.cell ((⟨b5, 0, none⟩ : Addr).add 0)) fun x41_0 =>
 oI .i64 (h_13.cell ((⟨b5, 0, none⟩ : Addr).add 1)) fun x41_1 =>
 oI .i64 (h_13.cell ((⟨b5, 0, none⟩ : Addr).add 2)) fun x41_2 =>
 xEq Try.prog 86 (.agg #[(.int .i64 x41_0), (.int .i64 x41_1), (.int .i64 x41_2)]) (.agg #[(.int .i64 0), (.int .i64 0), (.int .i64 0)]) fun x43 =>
 J_6 (!x43) h_13)
 (fun r44 h_14 =>
 xSc r44 false (fun J_7 =>
 J_7 x25 h_14)
 (fun r47 h_15 =>
 xSc r47 false (fun J_8 =>
 Meets Try.prog 44 #[(.pointer x18)] h_15 fun v50 h_16 =>
 oP (some v50) fun x50 =>
 J_8 (!(Option.isNone x50)) h_16)
 (fun r52 h_17 =>
 xIte r52 (fun J_9 =>
 Q (.bool false) h_17)
 (fun J_9 =>
 J_9 h_17)
 (fun  (h_18 : PH) =>
 J_4 h_18)) h_15) h_14) h_13) h_10)
 (fun  (h_19 : PH) =>
 J_2 (IntKind.wrap .i64 (x15 + 1)) h_19)))) n 0 h_3)
 (fun  (h_20 : PH) =>
 Meets Try.prog 39 #[(.int .i64 1), (.int .i64 1), (.int .i64 1)] h_20 fun v55 h_21 =>
 oTup v55 2 fun x55cs =>
 oIx x55cs[0]? fun x55w =>
 oP (some x55w) fun x55_0 =>
 oIx x55cs[1]? fun x55w_1 =>
 oI .i64 (some x55w_1) fun x55_1 =>
 oP (some (.pointer x55_0)) fun x56 =>
 oI .i64 (some (.int .i64 x55_1)) fun x57 =>
 xSc (Option.isNone x56) false (fun J_10 =>
 J_10 (x57 != 0) h_21)
 (fun r63 h_22 =>
 xSc r63 false (fun J_11 =>
 Meets Try.prog 40 #[(.pointer x56), (.agg #[(.int .i64 1), (.int .i64 0), (.int .i64 0), (.int .i64 1), (.int .i64 0), (.int .i64 0), (.int .i64 0), (.int .i64 0), (.int .i64 0), (.int .i64 0), (.int .i64 0), (.int .i64 0), (.int .i64 0)])] h_22 fun v68 h_23 =>
 oI .i64 (some v68) fun x68 =>
 J_11 (x68 != 0) h_23)
 (fun r70 h_24 =>
 xIte r70 (fun J_12 =>
 Q (.bool false) h_24)
 (fun J_12 =>
 J_12 h_24)
 (fun  (h_25 : PH) =>
 Meets Try.prog 41 #[(.pointer x56)] h_25 fun v72 h_26 =>
 oS (some v72) fun x72a x72l x72c =>
 xIte (((x72l : Nat) : Int) != 1) (fun J_13 =>
 Q (.bool false) h_26)
 (fun J_13 =>
 J_13 h_26)
 (fun  (h_27 : PH) =>
 xIdx x72a x72l 0 13 fun x77 =>
 xSt 1 h_27 (x77.add 0) [(.int .i64 9)] fun h_28 =>
 Meets Try.prog 44 #[(.pointer x56)] h_28 fun v80 h_29 =>
 oP (some v80) fun x80 =>
 Meets Try.prog 14 #[(.pointer x80), (.agg #[(.int .i64 1), (.int .i64 0), (.int .i64 0), (.int .i64 0), (.int .i64 0)])] h_29 fun v82 h_30 =>
 oI .i64 (some v82) fun x82 =>
 Meets Try.prog 41 #[(.pointer x56)] h_30 fun v84 h_31 =>
 oS (some v84) fun x84a x84l x84c =>
 xSc (((x84l : Nat) : Int) == 1) true (fun J_14 =>
 xIdx x84a x84l 0 13 fun x90 =>
 oI .i64 (h_31.cell (x90.add 0)) fun x92 =>
 J_14 (x92 == 1) h_31)
 (fun r94 h_32 =>
 xSc r94 true (fun J_15 =>
 Meets Try.prog 44 #[(.pointer x56)] h_32 fun v97 h_33 =>
 oP (some v97) fun x97 =>
 Meets Try.prog 18 #[(.pointer x97), (.int .i64 0)] h_33 fun v98 h_34 =>
 oI .i64 (some v98) fun x98 =>
 J_15 (x98 == (-1)) h_34)
 (fun r100 h_35 =>
 xSc r100 true (fun J_16 =>
 Meets Try.prog 38 #[] h_35 fun v102 h_36 =>
 oB (some v102) fun x102 =>
 J_16 x102 h_36)
 (fun r103 h_37 =>
 Q (.bool r103) h_37) h_35) h_32) h_31))) h_22) h_21)
theorem P_law15_GhostNobody_eq (a0_0 : Int) (a0_1 : Int) (a0_2 : Int) (a0_3 : Int) (a0_4 : Int) (a0_5 : Int) (a0_6 : Int) (a0_7 : Int) (a0_8 : Int) (a0_9 : Int) (a0_10 : Int) (a0_11 : Int) (a0_12 : Int) (h : PH) (Q : Value → PH → Prop) : dFn Try.prog Try.f10 A_law15_GhostNobody #[(.agg #[(.int .i64 a0_0), (.int .i64 a0_1), (.int .i64 a0_2), (.int .i64 a0_3), (.int .i64 a0_4), (.int .i64 a0_5), (.int .i64 a0_6), (.int .i64 a0_7), (.int .i64 a0_8), (.int .i64 a0_9), (.int .i64 a0_10), (.int .i64 a0_11), (.int .i64 a0_12)])] h Q = P_law15_GhostNobody a0_0 a0_1 a0_2 a0_3 a0_4 a0_5 a0_6 a0_7 a0_8 a0_9 a0_10 a0_11 a0_12 h Q := by kernel_rfl
theorem P_law15_GhostNobody_of {a0_0 : Int} {a0_1 : Int} {a0_2 : Int} {a0_3 : Int} {a0_4 : Int} {a0_5 : Int} {a0_6 : Int} {a0_7 : Int} {a0_8 : Int} {a0_9 : Int} {a0_10 : Int} {a0_11 : Int} {a0_12 : Int} {h : PH} {Q : Value → PH → Prop} (x : P_law15_GhostNobody a0_0 a0_1 a0_2 a0_3 a0_4 a0_5 a0_6 a0_7 a0_8 a0_9 a0_10 a0_11 a0_12 h Q) : Meets Try.prog 10 #[(.agg #[(.int .i64 a0_0), (.int .i64 a0_1), (.int .i64 a0_2), (.int .i64 a0_3), (.int .i64 a0_4), (.int .i64 a0_5), (.int .i64 a0_6), (.int .i64 a0_7), (.int .i64 a0_8), (.int .i64 a0_9), (.int .i64 a0_10), (.int .i64 a0_11), (.int .i64 a0_12)])] h Q :=
  spec_of Try.func10 mix (by kernel_rfl) ((P_law15_GhostNobody_eq a0_0 a0_1 a0_2 a0_3 a0_4 a0_5 a0_6 a0_7 a0_8 a0_9 a0_10 a0_11 a0_12 h Q).symm ▸ x)
end Go.Proofs.Ytnnedfhpicdacaa

/-
  How rows of integers are compared, and how keys of maps are found.
-/
namespace Go.Sx
open Go

/-- A struct of integers alone: its fields, one cell each. -/
def intFields (P : Program) : List Field → Nat → Bool
  | [], _ => true
  | f :: fs, i => !(f.name == "_") && Nat.beq f.offset i && (match P.underlying f.type with | some (.int _) => true | _ => false) && intFields P fs (i + 1)
def intStruct (P : Program) (t : TypeId) (n : Nat) : Bool :=
  (match P.underlying t with | some (.struct fs) => intFields P fs.toList 0 && Nat.beq fs.size n | _ => false) && !P.stoodInHeld t

def intsOf (l : List (IntKind × Int)) : Array Value := (l.map fun p => Value.int p.1 p.2).toArray

theorem run_part_int {P : Program} {w : World} {t : TypeId} {k' : IntKind} {cs : Array Value} {off : Nat} {k : IntKind} {n : Int} (ht : P.underlying t = some (.int k')) (h : cs[off]? = some (.int k n)) : (part t cs off).run P w = .ok (.int k n) w := by
  unfold part isAgg
  simp [run_underlying ht, h]

theorem run_eqFields_int {P : Program} {w : World} (d : Nat) (ks : List IntKind) (xs ys : List Int) (hx : xs.length = ks.length) (hy : ys.length = ks.length) : ∀ (fs : List Field) (i : Nat), intFields P fs i = true → i + fs.length = ks.length →
    (Op.eqFields (d + 1) (intsOf (ks.zip xs)) (intsOf (ks.zip ys)) fs).run P w = .ok (xs.drop i == ys.drop i) w := by
  intro fs
  induction fs with
  | nil =>
    intro i _ hi
    simp only [List.length_nil, Nat.add_zero] at hi
    have e1 : xs.drop i = [] := by rw [List.drop_eq_nil_iff]; omega
    have e2 : ys.drop i = [] := by rw [List.drop_eq_nil_iff]; omega
    simp [Op.eqFields, e1, e2]
  | cons f fs ih =>
    intro i hf hi
    simp only [List.length_cons] at hi
    simp only [intFields, Bool.and_eq_true, Bool.not_eq_true', beq_eq_false_iff_ne] at hf
    obtain ⟨⟨⟨hn, ho⟩, ht⟩, hr⟩ := hf
    have ho := Nat.eq_of_beq_eq_true ho
    have hix : i < xs.length := by omega
    have hiy : i < ys.length := by omega
    have hik : i < ks.length := by omega
    cases hu : P.underlying f.type with
    | none => rw [hu] at ht; cases ht
    | some k =>
      rw [hu] at ht
      cases k <;> simp only [Bool.false_eq_true] at ht
      rename_i k
      have gx : (intsOf (ks.zip xs))[i]? = some (.int ks[i] xs[i]) := by
        simp only [intsOf, List.getElem?_toArray, List.getElem?_map]
        rw [List.getElem?_eq_getElem (by simp; omega)]
        simp
      have gy : (intsOf (ks.zip ys))[i]? = some (.int ks[i] ys[i]) := by
        simp only [intsOf, List.getElem?_toArray, List.getElem?_map]
        rw [List.getElem?_eq_getElem (by simp; omega)]
        simp
      unfold Op.eqFields
      rw [if_pos hn]
      rw [Sem.run_bind, ho, run_part_int hu gx]
      simp only [Result.andThen_ok]
      rw [Sem.run_bind, run_part_int hu gy]
      simp only [Result.andThen_ok]
      rw [Sem.run_bind, run_equalIn_int w d f.type _ k _ _ hu]
      simp only [Result.andThen_ok]
      rw [List.drop_eq_getElem_cons hix, List.drop_eq_getElem_cons hiy]
      by_cases e : xs[i] = ys[i]
      · simp only [e, beq_self_eq_true, Bool.not_true, Bool.false_eq_true, if_false]
        rw [ih (i + 1) hr (by omega)]
        congr 1
        simp only [List.cons_beq_cons, beq_self_eq_true, Bool.true_and]
      · have e' : (xs[i] == ys[i]) = false := by simpa using e
        simp only [e', Bool.not_false, if_true, List.cons_beq_cons, Bool.false_and]
        rfl

theorem run_equal_ints {P : Program} {w : World} {t : TypeId} (ks : List IntKind) (xs ys : List Int) (h : intStruct P t ks.length = true) (hx : xs.length = ks.length) (hy : ys.length = ks.length) :
    (Op.equal t (.agg (intsOf (ks.zip xs))) (.agg (intsOf (ks.zip ys)))).run P w = .ok (xs == ys) w := by
  simp only [intStruct, Bool.and_eq_true, Bool.not_eq_true'] at h
  obtain ⟨h, hp⟩ := h
  cases hu : P.underlying t with
  | none => rw [hu] at h; cases h
  | some k =>
    rw [hu] at h
    cases k <;> simp only [Bool.false_eq_true] at h
    rename_i fs
    simp only [Bool.and_eq_true] at h
    obtain ⟨hf, hn⟩ := h
    have hn := Nat.eq_of_beq_eq_true hn
    have hF : P.fieldsOf t = fs := by simp [Program.fieldsOf, hu]
    show (Op.equalIn (9998 + 1 + 1) t _ _).run P w = _
    rw [run_equalIn_agg w _ t _ _ (by rw [hF]; exact hu) hp, hF]
    have := run_eqFields_int (P := P) (w := w) 9998 ks xs ys hx hy fs.toList 0 hf (by simp; omega)
    simpa using this

theorem eqLaw_ints {P : Program} {t : TypeId} (ks : List IntKind) (xs ys : List Int) (h : (intStruct P t ks.length && !P.eqGuardType P.depth t) = true) (hx : xs.length = ks.length) (hy : ys.length = ks.length) :
    EqLaw P t (.agg (intsOf (ks.zip xs))) (.agg (intsOf (ks.zip ys))) (xs == ys) := by
  simp only [Bool.and_eq_true, Bool.not_eq_true'] at h
  exact ⟨h.2, fun w => run_equal_ints ks xs ys h.1 hx hy⟩

/-! ### Keys of two integers -/
def key2 (a b : Int) : Value := .agg #[.int .i64 a, .int .i64 b]
def isKey2 (v : Value) : Prop := ∃ a b, v = key2 a b

theorem sameBits_key2 (a b c d : Int) (n : Nat) : Instr.sameBits (n + 1) (key2 a b) (key2 c d) = (a == c && b == d) := by
  unfold key2
  cases n <;> simp [Instr.sameBits]

theorem run_checkKey_int {P : Program} {w : World} {t : TypeId} {k : IntKind} (em : Bool) (n : Nat) (v : Value) (h : P.underlying t = some (.int k)) : (Instr.checkKey em (n + 1) t v).run P w = .ok () w := by
  unfold Instr.checkKey
  simp [run_underlying h]

theorem keyLaw2 {P : Program} {t : TypeId} {f g : Field} (hu : P.underlying t = some (.struct #[f, g])) (h : intStruct P t 2 = true) : KeyLaw P t isKey2 := by
  have h' := h
  simp only [intStruct, hu, Bool.and_eq_true, intFields, Bool.not_eq_true', beq_eq_false_iff_ne] at h'
  obtain ⟨⟨⟨⟨⟨hn1, ho1⟩, ht1⟩, ⟨⟨hn2, ho2⟩, ht2⟩, -⟩, -⟩, -⟩ := h'
  have ho1 := Nat.eq_of_beq_eq_true ho1
  have ho2 := Nat.eq_of_beq_eq_true ho2
  have int_of : ∀ x : TypeId, (match P.underlying x with | some (.int _) => true | _ => false) = true → ∃ k, P.underlying x = some (.int k) := by
    intro x hx
    cases e : P.underlying x with
    | none => rw [e] at hx; cases hx
    | some d => rw [e] at hx; cases d <;> first | exact ⟨_, rfl⟩ | cases hx
  obtain ⟨k1, u1⟩ := int_of _ ht1
  obtain ⟨k2, u2⟩ := int_of _ ht2
  have eqs : ∀ a b c d w, (Op.equal t (key2 a b) (key2 c d)).run P w = .ok (a == c && b == d) w := by
    intro a b c d w
    have := run_equal_ints (P := P) (w := w) (t := t) [.i64, .i64] [a, b] [c, d] h rfl rfl
    simpa [intsOf, key2] using this
  refine ⟨?_, ?_, ?_⟩
  · rintro k ⟨a, b, rfl⟩ em w
    unfold Instr.checkKey
    simp only [Sem.run_bind, run_underlying hu, Result.andThen_ok, key2]
    have p1 : ∀ w, (part f.type #[Value.int .i64 a, .int .i64 b] f.offset).run P w = .ok (.int .i64 a) w := fun w => run_part_int u1 (by rw [ho1]; rfl)
    have p2 : ∀ w, (part g.type #[Value.int .i64 a, .int .i64 b] g.offset).run P w = .ok (.int .i64 b) w := fun w => run_part_int u2 (by rw [ho2]; rfl)
    have c1 : ∀ v w, (Instr.checkKey em 9999 f.type v).run P w = .ok () w := fun v w => run_checkKey_int em 9998 v u1
    have c2 : ∀ v w, (Instr.checkKey em 9999 g.type v).run P w = .ok () w := fun v w => run_checkKey_int em 9998 v u2
    rw [← Array.forIn_toList]
    simp [hn1, hn2, p1, p2, c1, c2, Result.andThen]
  · intro k es ⟨a, b, hk⟩ hes w
    subst hk
    have ask : ∀ (es : List MapEntry) (i : Nat), (∀ e ∈ es, isKey2 e.key) → (Instr.findAsking t (key2 a b) es i).run P w = .ok (findE es (key2 a b) i) w := by
      intro es
      induction es with
      | nil => intro i _; rfl
      | cons e es ih =>
        intro i hes
        obtain ⟨c, d, hc⟩ := hes e (List.mem_cons_self ..)
        unfold Instr.findAsking findE
        rw [Sem.run_bind, hc, eqs, sameBits_key2]
        simp only [Result.andThen_ok]
        by_cases hh : (a == c && b == d) = true
        · simp [hh]
        · simp only [hh, if_false, Bool.false_eq_true]
          exact ih (i + 1) fun e he => hes e (List.mem_cons_of_mem _ he)
    unfold Instr.findKey
    rw [Sem.run_bind, run_underlying hu]
    simp only [Result.andThen_ok]
    cases es with
    | nil => rfl
    | cons e es =>
      obtain ⟨c, d, hc⟩ := hes e (List.mem_cons_self ..)
      have : Instr.findNow (.struct #[f, g]) (key2 a b) (e :: es) 0 = none := by
        unfold Instr.findNow; rw [hc]; rfl
      rw [this]
      exact ask _ 0 hes
  · rintro k k' ⟨a, b, rfl⟩ ⟨c, d, rfl⟩
    rw [sameBits_key2, sameBits_key2]
    rw [Bool.eq_iff_iff]
    constructor <;> intro h <;> simp at h ⊢ <;> exact ⟨h.1.symm, h.2.symm⟩

theorem keyLaw2' {P : Program} {t : TypeId} (h : intStruct P t 2 = true) : KeyLaw P t isKey2 := by
  have h' := h
  simp only [intStruct, Bool.and_eq_true] at h'
  obtain ⟨h', _⟩ := h'
  cases hu : P.underlying t with
  | none => rw [hu] at h'; cases h'
  | some k =>
    rw [hu] at h'
    cases k <;> simp only [Bool.false_eq_true] at h'
    rename_i fs
    simp only [Bool.and_eq_true] at h'
    have hn := Nat.eq_of_beq_eq_true h'.2
    have : ∃ f g, fs = #[f, g] := by
      obtain ⟨l⟩ := fs
      match l, hn with
      | [f, g], _ => exact ⟨f, g, rfl⟩
    obtain ⟨f, g, rfl⟩ := this
    exact keyLaw2 hu h

end Go.Sx

/-
  Maps of places in memory, and what is done to them.
-/
namespace Go.Md
open Go Go.Sx Go.Proofs

/-- The entries stand for the list. -/
def Ents {α : Type} (enc : α → Value) (es : List MapEntry) (l : Pl α) : Prop := es.map (fun e => (MapEntry.key e, MapEntry.val e)) = l.map fun p => (key2 p.1 p.2.1, enc p.2.2)
structure Stamps (es : List MapEntry) (cl : Nat) : Prop where
  lt : ∀ e ∈ es, MapEntry.born e < cl
  nd : (es.map (·.born)).Nodup
def MapRep {α : Type} (enc : α → Value) (h : PH) (b : Nat) (l : Pl α) : Prop := ∃ es cl, h b = some (.map es cl) ∧ Ents enc es.toList l ∧ Stamps es.toList cl

theorem Ents.keys {α : Type} {enc : α → Value} {es : List MapEntry} {l : Pl α} (h : Ents enc es l) : ∀ e ∈ es, isKey2 (MapEntry.key e) := by
  intro e he
  have : (MapEntry.key e, MapEntry.val e) ∈ es.map (fun e => (MapEntry.key e, MapEntry.val e)) := List.mem_map_of_mem he
  rw [h] at this
  obtain ⟨p, _, hp⟩ := List.mem_map.1 this
  simp only [Prod.mk.injEq] at hp
  exact ⟨_, _, hp.1.symm⟩

theorem Ents.nil_iff {α : Type} {enc : α → Value} {es : List MapEntry} (h : Ents enc es ([] : Pl α)) : es = [] := by simpa [Ents] using h
theorem Ents.cons_inv {α : Type} {enc : α → Value} {es : List MapEntry} {p : Int × Int × α} {l : Pl α} (h : Ents enc es (p :: l)) : ∃ e r, es = e :: r ∧ e.key = key2 p.1 p.2.1 ∧ e.val = enc p.2.2 ∧ Ents enc r l := by
  cases es with
  | nil => simp [Ents] at h
  | cons e r =>
    simp only [Ents, List.map_cons, List.cons.injEq, Prod.mk.injEq] at h
    exact ⟨e, r, rfl, h.1.1, h.1.2, h.2⟩
theorem Ents.cons {α : Type} {enc : α → Value} {e : MapEntry} {r : List MapEntry} {p : Int × Int × α} {l : Pl α} (hk : e.key = key2 p.1 p.2.1) (hv : e.val = enc p.2.2) (h : Ents enc r l) : Ents enc (e :: r) (p :: l) := by
  simp only [Ents, List.map_cons, hk, hv] at h ⊢; rw [h]

theorem same_iff (o t a b : Int) : Instr.sameBits 10000 (key2 o t) (key2 a b) = true ↔ a = o ∧ b = t := by
  rw [sameBits_key2]; simp; exact ⟨fun h => ⟨h.1.symm, h.2.symm⟩, fun h => ⟨h.1.symm, h.2.symm⟩⟩

theorem Ents.find {α : Type} {enc : α → Value} (o t : Int) : ∀ {es : List MapEntry} {l : Pl α} (i : Nat), Ents enc es l → (findE es (key2 o t) i).map (·.2) = (l.find o t).map enc := by
  intro es l
  induction l generalizing es with
  | nil => intro i h; rw [h.nil_iff]; rfl
  | cons p l ih =>
    intro i h
    obtain ⟨e, r, rfl, hk, hv, hr⟩ := h.cons_inv
    unfold findE Pl.find
    rw [hk]
    by_cases hs : p.1 = o ∧ p.2.1 = t
    · rw [if_pos ((same_iff _ _ _ _).2 hs), List.find?_cons_of_pos (by simpa using hs)]
      simp [hv]
    · rw [if_neg (fun x => hs ((same_iff _ _ _ _).1 x)), List.find?_cons_of_neg (by simpa using hs)]
      exact ih (i + 1) hr

theorem Ents.put {α : Type} {enc : α → Value} (o t : Int) (x : α) (nw : MapEntry) (hnk : nw.key = key2 o t) (hnv : nw.val = enc x) : ∀ {es : List MapEntry} {l : Pl α} (i : Nat), Ents enc es l →
    match findE es (key2 o t) i with
    | some (j, _) => i ≤ j ∧ Ents enc (es.modify (j - i) fun e => { e with key := key2 o t, val := enc x }) (l.put o t x)
    | none => Ents enc (es ++ [nw]) (l.put o t x) := by
  intro es l
  induction l generalizing es with
  | nil =>
    intro i h; rw [h.nil_iff]
    simp only [findE, Pl.put, List.nil_append]
    exact Ents.cons (p := (o, t, x)) hnk hnv (by simp [Ents])
  | cons p l ih =>
    intro i h
    obtain ⟨e, r, rfl, hk, hv, hr⟩ := h.cons_inv
    unfold findE Pl.put
    rw [hk]
    by_cases hs : p.1 = o ∧ p.2.1 = t
    · rw [if_pos ((same_iff _ _ _ _).2 hs), if_pos hs]
      refine ⟨Nat.le_refl _, ?_⟩
      simp only [Nat.sub_self, List.modify_zero_cons]
      exact Ents.cons (p := (o, t, x)) rfl rfl hr
    · rw [if_neg (fun x => hs ((same_iff _ _ _ _).1 x)), if_neg hs]
      have := ih (i + 1) hr
      cases hf : findE r (key2 o t) (i + 1) with
      | none => rw [hf] at this; exact Ents.cons hk hv this
      | some q =>
        obtain ⟨j, v⟩ := q
        rw [hf] at this
        refine ⟨by have := this.1; omega, ?_⟩
        have e1 : j - i = (j - (i + 1)) + 1 := by have := this.1; omega
        simp only [e1, List.modify_succ_cons]
        exact Ents.cons hk hv this.2

theorem Ents.del {α : Type} {enc : α → Value} (o t : Int) : ∀ {es : List MapEntry} {l : Pl α} (i : Nat), Ents enc es l →
    match findE es (key2 o t) i with
    | some (j, _) => i ≤ j ∧ Ents enc (es.eraseIdx (j - i)) (l.del o t)
    | none => Ents enc es (l.del o t) := by
  intro es l
  induction l generalizing es with
  | nil => intro i h; rw [h.nil_iff]; simp [findE, Pl.del, Ents]
  | cons p l ih =>
    intro i h
    obtain ⟨e, r, rfl, hk, hv, hr⟩ := h.cons_inv
    unfold findE Pl.del
    rw [hk]
    by_cases hs : p.1 = o ∧ p.2.1 = t
    · rw [if_pos ((same_iff _ _ _ _).2 hs), if_pos hs]
      refine ⟨Nat.le_refl _, ?_⟩
      simpa using hr
    · rw [if_neg (fun x => hs ((same_iff _ _ _ _).1 x)), if_neg hs]
      have := ih (i + 1) hr
      cases hf : findE r (key2 o t) (i + 1) with
      | none => rw [hf] at this; exact Ents.cons hk hv this
      | some q =>
        obtain ⟨j, v⟩ := q
        rw [hf] at this
        refine ⟨by have := this.1; omega, ?_⟩
        have e1 : j - i = (j - (i + 1)) + 1 := by have := this.1; omega
        simp only [e1, List.eraseIdx_cons_succ]
        exact Ents.cons hk hv this.2

theorem map_born_modify (k v : Value) (es : List MapEntry) (j : Nat) : (es.modify j fun e => { e with key := k, val := v }).map (·.born) = es.map (·.born) := by
  induction es generalizing j with
  | nil => simp
  | cons e r ih => cases j with
    | zero => simp
    | succ j => simp [ih]

theorem Stamps.of_born {es es' : List MapEntry} {cl : Nat} (h : Stamps es cl) (e : es'.map (·.born) = es.map (·.born)) : Stamps es' cl := by
  refine ⟨fun x hx => ?_, by rw [e]; exact h.nd⟩
  have : x.born ∈ es'.map (·.born) := List.mem_map_of_mem hx
  rw [e] at this
  obtain ⟨y, hy, hh⟩ := List.mem_map.1 this
  rw [← hh]; exact h.lt y hy
theorem Stamps.sub {es es' : List MapEntry} {cl : Nat} (h : Stamps es cl) (s : es'.Sublist es) : Stamps es' cl := ⟨fun x hx => h.lt x (s.subset hx), h.nd.sublist (s.map _)⟩
theorem Stamps.push {es : List MapEntry} {cl : Nat} (h : Stamps es cl) (k v : Value) : Stamps (es ++ [{ key := k, val := v, born := cl }]) (cl + 1) := by
  refine ⟨fun x hx => ?_, ?_⟩
  · rcases List.mem_append.1 hx with hx | hx
    · have := h.lt x hx; omega
    · simp at hx; subst hx; simp
  · rw [List.map_append, List.nodup_append]
    refine ⟨h.nd, by simp, ?_⟩
    intro a ha b hb
    simp at hb; subst hb
    obtain ⟨y, hy, rfl⟩ := List.mem_map.1 ha
    have := h.lt y hy; omega

theorem mapGet_rep {α : Type} {enc : α → Value} {es : Array MapEntry} {l : Pl α} (h : Ents enc es.toList l) (o t : Int) : mapGet es (key2 o t) = (l.find o t).map enc := h.find o t 0

theorem mapPut_rep {α : Type} {enc : α → Value} {es : Array MapEntry} {cl : Nat} {l : Pl α} (h : Ents enc es.toList l) (s : Stamps es.toList cl) (o t : Int) (x : α) :
    ∃ es' cl', mapPut es cl (key2 o t) (enc x) = .map es' cl' ∧ Ents enc es'.toList (l.put o t x) ∧ Stamps es'.toList cl' := by
  have := h.put o t x { key := key2 o t, val := enc x, born := cl } rfl rfl 0
  unfold mapPut
  cases hf : findE es.toList (key2 o t) 0 with
  | none =>
    rw [hf] at this
    refine ⟨_, _, rfl, by simpa using this, ?_⟩
    simpa using s.push (key2 o t) (enc x)
  | some q =>
    obtain ⟨j, v⟩ := q
    rw [hf] at this
    refine ⟨_, _, rfl, by simpa using this.2, ?_⟩
    rw [Array.toList_modify]
    exact s.of_born (map_born_modify _ _ _ _)

theorem mapDel_rep {α : Type} {enc : α → Value} {es : Array MapEntry} {cl : Nat} {l : Pl α} (h : Ents enc es.toList l) (s : Stamps es.toList cl) (o t : Int) :
    ∃ es' cl', mapDel es cl (key2 o t) = .map es' cl' ∧ Ents enc es'.toList (l.del o t) ∧ Stamps es'.toList cl' := by
  have := h.del o t 0
  unfold mapDel
  cases hf : findE es.toList (key2 o t) 0 with
  | none =>
    rw [hf] at this
    exact ⟨_, _, rfl, this, s⟩
  | some q =>
    obtain ⟨j, v⟩ := q
    rw [hf] at this
    refine ⟨_, _, rfl, by simpa using this.2, ?_⟩
    rw [Array.toList_eraseIdxIfInBounds]
    exact s.sub (List.eraseIdx_sublist _ _)

/-! ### In memory -/
theorem law122 : KeyLaw Try.prog 122 isKey2 := keyLaw2' (by kernel_rfl)

theorem look_rep {α : Type} {enc : α → Value} {h : PH} {b : Nat} {l : Pl α} (r : MapRep enc h b l) (o t : Int) {K : Option Value → Prop} (k : K ((l.find o t).map enc)) : xLook Try.prog 122 h (some b) (.agg #[.int .i64 o, .int .i64 t]) K := by
  obtain ⟨es, cl, hb, he, hs⟩ := r
  refine .inl ⟨b, es, cl, isKey2, rfl, hb, law122, ⟨o, t, rfl⟩, he.keys, ?_⟩
  rw [show (Value.agg #[.int .i64 o, .int .i64 t]) = key2 o t from rfl, mapGet_rep he]; exact k
theorem put_rep {α : Type} {enc : α → Value} {h : PH} {b : Nat} {l : Pl α} (r : MapRep enc h b l) (o t : Int) (x : α) {K : PH → Prop} {v : Value} (hv : v = enc x) (k : ∀ O, MapRep enc (h.upd b O) b (l.put o t x) → K (h.upd b O)) : xPut Try.prog 122 h (some b) (.agg #[.int .i64 o, .int .i64 t]) v K := by
  obtain ⟨es, cl, hb, he, hs⟩ := r
  refine ⟨b, es, cl, isKey2, rfl, hb, law122, ⟨o, t, rfl⟩, he.keys, k _ ?_⟩
  obtain ⟨es', cl', h1, h2, h3⟩ := mapPut_rep he hs o t x
  refine ⟨es', cl', ?_, h2, h3⟩
  rw [PH.upd_same, hv]; exact congrArg some h1
theorem del_rep {α : Type} {enc : α → Value} {h : PH} {b : Nat} {l : Pl α} (r : MapRep enc h b l) (o t : Int) {K : PH → Prop} (k : ∀ O, MapRep enc (h.upd b O) b (l.del o t) → K (h.upd b O)) : xDel Try.prog 122 h (some b) (.agg #[.int .i64 o, .int .i64 t]) K := by
  obtain ⟨es, cl, hb, he, hs⟩ := r
  refine ⟨b, es, cl, isKey2, rfl, hb, law122, ⟨o, t, rfl⟩, he.keys, k _ ?_⟩
  obtain ⟨es', cl', h1, h2, h3⟩ := mapDel_rep he hs o t
  refine ⟨es', cl', ?_, h2, h3⟩
  rw [PH.upd_same]; exact congrArg some h1
theorem MapRep.of {α : Type} {enc : α → Value} {h h' : PH} {b : Nat} {l : Pl α} (r : MapRep enc h b l) (e : h' b = h b) : MapRep enc h' b l := by
  obtain ⟨es, cl, hb, x⟩ := r; exact ⟨es, cl, e.trans hb, x⟩

end Go.Md

/-
  A model in memory.
-/
namespace Go.Md
open Go Go.Sx Go.Proofs

/-- The blocks of a model: its own, its monitors', its flags', and its two maps'. -/
structure ML where
  m : Nat
  ob : Nat
  fb : Nat
  wb : Nat
  lb : Nat
def ML.all (L : ML) : List Nat := [L.m, L.ob, L.fb, L.wb, L.lb]

def moV (m : Mo) : List Value := [.int .i64 m.owner, .int .i64 m.count, .int .i64 m.hash]
def moArr (l : List Mo) (junk : List Value) : Array Value := ((l.map moV).flatten ++ junk).toArray
def flArr (l : List Bool) (junk : List Value) : Array Value := (l.map Value.bool ++ junk).toArray
def encI (n : Int) : Value := .int .i64 n
def encL (p : Int × Int) : Value := .agg #[.int .i64 p.1, .int .i64 p.2]

structure MRep (h : PH) (L : ML) (s : Ms) : Prop where
  nd : L.all.Nodup
  nm : s.mons.length ≤ 8
  nf : s.flags.length ≤ 8
  cm : ∃ c c', h L.m = some (.cells #[.int .i64 s.most, .slice (some ⟨L.ob, 0, none⟩) s.mons.length c, .slice (some ⟨L.fb, 0, none⟩) s.flags.length c', .map (some L.wb), .map (some L.lb)] 45 (0, 0))
  co : ∃ junk, h L.ob = some (.cells (moArr s.mons junk) 117 (0, 0))
  cf : ∃ junk, h L.fb = some (.cells (flArr s.flags junk) 4 (0, 0))
  cw : MapRep encI h L.wb s.waits
  cl : MapRep encL h L.lb s.left

theorem MRep.of {h h' : PH} {L : ML} {s : Ms} (r : MRep h L s) (e : ∀ b ∈ L.all, h' b = h b) : MRep h' L s := by
  obtain ⟨nd, nm, nf, cm, co, cf, cw, cl⟩ := r
  have e1 := e L.m (by simp [ML.all]); have e2 := e L.ob (by simp [ML.all]); have e3 := e L.fb (by simp [ML.all]); have e4 := e L.wb (by simp [ML.all]); have e5 := e L.lb (by simp [ML.all])
  exact ⟨nd, nm, nf, by rw [e1]; exact cm, by rw [e2]; exact co, by rw [e3]; exact cf, cw.of e4, cl.of e5⟩
theorem MRep.known {h : PH} {L : ML} {s : Ms} (r : MRep h L s) : ∀ b ∈ L.all, ∃ O, h b = some O := by
  obtain ⟨nd, nm, nf, ⟨c, c', cm⟩, ⟨j, co⟩, ⟨j', cf⟩, ⟨es, k, cw, _⟩, ⟨es', k', cl, _⟩⟩ := r
  intro b hb
  simp only [ML.all, List.mem_cons, List.not_mem_nil, or_false] at hb
  rcases hb with rfl | rfl | rfl | rfl | rfl
  · exact ⟨_, cm⟩
  · exact ⟨_, co⟩
  · exact ⟨_, cf⟩
  · exact ⟨_, cw⟩
  · exact ⟨_, cl⟩
theorem MRep.le {h h' : PH} {L : ML} {s : Ms} (r : MRep h L s) (l : h.le h') : MRep h' L s := by
  refine r.of fun b hb => ?_
  obtain ⟨O, hO⟩ := r.known b hb
  rw [hO]; exact l _ _ hO
theorem MRep.ext {h h' : PH} {L : ML} {s : Ms} {S : List Nat} (r : MRep h L s) (l : Ext S h h') (d : ∀ b ∈ L.all, b ∉ S) : MRep h' L s := by
  refine r.of fun b hb => ?_
  obtain ⟨O, hO⟩ := r.known b hb
  rw [hO]; exact l _ _ hO (d b hb)
theorem MRep.new {h : PH} {L : ML} {s : Ms} (r : MRep h L s) {b : Nat} {O : Obj} (n : h b = none) : MRep (h.upd b O) L s := r.le (PH.le_upd n)
/-- A new block is none of its. -/
theorem MRep.off {h : PH} {L : ML} {s : Ms} (r : MRep h L s) {b : Nat} (n : h b = none) : L.m ≠ b ∧ L.ob ≠ b ∧ L.fb ≠ b ∧ L.wb ≠ b ∧ L.lb ≠ b := by
  have : ∀ x ∈ L.all, x ≠ b := by
    intro x hx e
    obtain ⟨O, hO⟩ := r.known x hx
    subst e; rw [n] at hO; cases hO
  exact ⟨this _ (by simp [ML.all]), this _ (by simp [ML.all]), this _ (by simp [ML.all]), this _ (by simp [ML.all]), this _ (by simp [ML.all])⟩
theorem MRep.nes {h : PH} {L : ML} {s : Ms} (r : MRep h L s) : L.m ≠ L.ob ∧ L.m ≠ L.fb ∧ L.m ≠ L.wb ∧ L.m ≠ L.lb ∧ L.ob ≠ L.fb ∧ L.ob ≠ L.wb ∧ L.ob ≠ L.lb ∧ L.fb ≠ L.wb ∧ L.fb ≠ L.lb ∧ L.wb ≠ L.lb := by
  have := r.nd
  simp only [ML.all, List.nodup_cons, List.mem_cons, List.not_mem_nil, or_false, not_or, not_false_eq_true, List.nodup_nil, and_true] at this
  obtain ⟨⟨a, b, c, d⟩, ⟨e, f, g⟩, ⟨i, j⟩, k⟩ := this
  exact ⟨a, b, c, d, e, f, g, i, j, k⟩

/-! ### Monitors and flags in their rows -/
theorem moArr_get {l : List Mo} {junk : List Value} {n : Nat} (h : n < l.length) (k : Nat) (hk : k < 3) : (moArr l junk)[n * 3 + k]? = (moV (l.getD n ⟨-1, 0, 0⟩))[k]? := by
  unfold moArr
  simp only [List.getElem?_toArray]
  induction l generalizing n with
  | nil => simp at h
  | cons a l ih =>
    cases n with
    | zero =>
      simp only [List.map_cons, List.flatten_cons, List.append_assoc, Nat.zero_mul, Nat.zero_add, List.getD_cons_zero]
      rw [List.getElem?_append_left (by simp [moV]; omega)]
    | succ n =>
      simp only [List.map_cons, List.flatten_cons, List.append_assoc, List.getD_cons_succ]
      rw [List.getElem?_append_right (by simp [moV]; omega)]
      rw [show (n + 1) * 3 + k - (moV a).length = n * 3 + k from by simp [moV]; omega]
      exact ih (by simpa using h)
theorem moArr_size {l : List Mo} {junk : List Value} : (moArr l junk).size = l.length * 3 + junk.length := by
  unfold moArr
  simp only [List.size_toArray, List.length_append]
  congr 1
  induction l with
  | nil => rfl
  | cons a l ih => simp only [List.map_cons, List.flatten_cons, List.length_append, List.length_cons, ih]; simp [moV]; omega
theorem moArr_0 {l : List Mo} {junk : List Value} {n : Nat} (h : n < l.length) : (moArr l junk)[n * 3]? = some (.int .i64 (l.getD n ⟨-1, 0, 0⟩).owner) := moArr_get h 0 (by omega)
theorem moArr_1 {l : List Mo} {junk : List Value} {n : Nat} (h : n < l.length) : (moArr l junk)[n * 3 + 1]? = some (.int .i64 (l.getD n ⟨-1, 0, 0⟩).count) := moArr_get h 1 (by omega)
theorem moArr_2 {l : List Mo} {junk : List Value} {n : Nat} (h : n < l.length) : (moArr l junk)[n * 3 + 2]? = some (.int .i64 (l.getD n ⟨-1, 0, 0⟩).hash) := moArr_get h 2 (by omega)
/-- 'setN' of a list. -/
def setL (c : List Value) (off : Nat) : List Value → List Value
  | [] => c
  | v :: vs => setL (c.set off v) (off + 1) vs
theorem setN_list (l : List Value) (o : Nat) (vs : List Value) : setN l.toArray o vs = (setL l o vs).toArray := by
  induction vs generalizing l o with
  | nil => rfl
  | cons v vs ih => simp only [setN, setL, List.setIfInBounds_toArray]; exact ih _ _
theorem setL_skip (a r : List Value) (o : Nat) (vs : List Value) : setL (a ++ r) (a.length + o) vs = a ++ setL r o vs := by
  induction vs generalizing r o with
  | nil => rfl
  | cons v vs ih =>
    simp only [setL]
    rw [List.set_append_right _ _ (by omega), show a.length + o - a.length = o from by omega, show a.length + o + 1 = a.length + (o + 1) from by omega]
    exact ih _ _
theorem moArr_set {l : List Mo} {junk : List Value} {n : Nat} (h : n < l.length) (k : Nat) (vs : List Value) (m : Mo) (hm : setL (moV (l.getD n ⟨-1, 0, 0⟩)) k vs = moV m) (hk : k + vs.length ≤ 3) :
    setN (moArr l junk) (n * 3 + k) vs = moArr (l.set n m) junk := by
  unfold moArr
  rw [setN_list]
  congr 1
  induction l generalizing n with
  | nil => simp at h
  | cons a l ih =>
    have front : ∀ (x r : List Value) (k : Nat) (vs : List Value), k + vs.length ≤ x.length → setL (x ++ r) k vs = setL x k vs ++ r := by
      intro x r k vs
      induction vs generalizing x k with
      | nil => intro _; rfl
      | cons v vs ih =>
        intro hl
        simp only [List.length_cons] at hl
        simp only [setL]
        rw [List.set_append_left _ _ (by omega)]
        exact ih _ _ (by simp; omega)
    cases n with
    | zero =>
      simp only [List.map_cons, List.flatten_cons, List.append_assoc, List.set_cons_zero]
      simp only [List.getD_cons_zero] at hm
      rw [show 0 * 3 + k = k from by omega, front (moV a) _ k vs (by simp [moV]; omega), hm]
    | succ n =>
      simp only [List.map_cons, List.flatten_cons, List.append_assoc, List.set_cons_succ]
      simp only [List.getD_cons_succ] at hm
      rw [show (n + 1) * 3 + k = (moV a).length + (n * 3 + k) from by simp [moV]; omega, setL_skip]
      rw [ih (by simpa using h) hm]
theorem flArr_get {l : List Bool} {junk : List Value} {n : Nat} (h : n < l.length) : (flArr l junk)[n]? = some (.bool (l.getD n false)) := by
  unfold flArr
  simp [List.getElem?_append_left, h]
theorem flArr_size {l : List Bool} {junk : List Value} : (flArr l junk).size = l.length + junk.length := by simp [flArr]
theorem flArr_set {l : List Bool} {junk : List Value} {n : Nat} (h : n < l.length) (b : Bool) : setN (flArr l junk) n [.bool b] = flArr (l.set n b) junk := by
  simp only [setN, flArr, List.setIfInBounds_toArray]
  rw [List.set_append_left _ _ (by simpa using h), List.map_set]

end Go.Md

/-
  Maps of places: no place stands twice; what is left of a walk over one.
-/
set_option linter.unusedSimpArgs false
set_option linter.unusedVariables false
namespace Go.Md
open Go Go.Sx Go.Proofs

/-! ### Maps -/
/-- No place stands twice. -/
def Pl.Once {α : Type} (l : Pl α) : Prop := (l.map fun p => (p.1, p.2.1)).Nodup

theorem Pl.find_mem {α : Type} {l : Pl α} (o : Pl.Once l) {p : Int × Int × α} (hp : p ∈ l) : l.find p.1 p.2.1 = some p.2.2 := by
  induction l with
  | nil => cases hp
  | cons q l ih =>
    unfold Pl.Once at o
    simp only [List.map_cons, List.nodup_cons, List.mem_map, not_exists, not_and] at o
    unfold Pl.find
    rcases List.mem_cons.1 hp with rfl | hp
    · rw [List.find?_cons_of_pos (by simp)]; rfl
    · rw [List.find?_cons_of_neg]
      · exact ih o.2 hp
      · intro e
        simp only [Bool.and_eq_true, beq_iff_eq] at e
        exact o.1 p hp (by rw [← e.1, ← e.2])

theorem Stamps.find {es : List MapEntry} {cl : Nat} (s : Stamps es cl) {e : MapEntry} (he : e ∈ es) : es.find? (fun x => x.born == e.born) = some e := by
  have nd := s.nd
  clear s
  induction es with
  | nil => cases he
  | cons x r ih =>
    simp only [List.map_cons, List.nodup_cons, List.mem_map, not_exists, not_and] at nd
    rcases List.mem_cons.1 he with rfl | he
    · rw [List.find?_cons_of_pos (by simp)]
    · rw [List.find?_cons_of_neg]
      · exact ih he nd.2
      · intro hh
        simp only [beq_iff_eq] at hh
        exact nd.1 e he hh.symm

/-- What is left of a walk over a map. -/
def leftOf (es : List MapEntry) (seen : Array Nat) : Nat := (es.filter fun e => !seen.contains e.born).length
theorem left_push {es : List MapEntry} {seen : Array Nat} {e : MapEntry} (he : e ∈ es) (hs : seen.contains e.born = false) : leftOf es (seen.push e.born) < leftOf es seen := by
  unfold leftOf
  have sub : ∀ (l : List MapEntry), (l.filter fun x => !(seen.push e.born).contains x.born).length ≤ (l.filter fun x => !seen.contains x.born).length := by
    intro l
    induction l with
    | nil => simp
    | cons x l ih =>
      simp only [List.filter_cons]
      by_cases h : seen.contains x.born = true
      · have : (seen.push e.born).contains x.born = true := by
          simp at h ⊢; exact .inl h
        simp only [h, this, Bool.not_true, Bool.false_eq_true, if_false]; exact ih
      · have h : seen.contains x.born = false := by simpa using h
        simp only [h, Bool.not_false, if_true]
        split
        · simp only [List.length_cons]; omega
        · simp only [List.length_cons]; omega
  induction es with
  | nil => cases he
  | cons x l ih =>
    simp only [List.filter_cons]
    rcases List.mem_cons.1 he with rfl | he
    · have : (seen.push e.born).contains e.born = true := by simp
      simp only [hs, this, Bool.not_true, Bool.not_false, Bool.false_eq_true, if_false, if_true, List.length_cons]
      have := sub l
      omega
    · have := ih he
      by_cases h : seen.contains x.born = true
      · have h2 : (seen.push e.born).contains x.born = true := by
          simp at h ⊢; exact .inl h
        simp only [h, h2, Bool.not_true, Bool.false_eq_true, if_false]; exact this
      · have h : seen.contains x.born = false := by simpa using h
        simp only [h, Bool.not_false, if_true]
        split
        · simp only [List.length_cons]; omega
        · simp only [List.length_cons]; omega

/-- Who is there of what stands in memory. -/
theorem Ents.mem {α : Type} {enc : α → Value} {es : List MapEntry} {l : Pl α} (h : Ents enc es l) {e : MapEntry} (he : e ∈ es) : ∃ p ∈ l, e.key = key2 p.1 p.2.1 ∧ e.val = enc p.2.2 := by
  have : (e.key, e.val) ∈ es.map (fun e => (MapEntry.key e, MapEntry.val e)) := List.mem_map_of_mem he
  rw [h] at this
  obtain ⟨p, hp, hh⟩ := List.mem_map.1 this
  simp only [Prod.mk.injEq] at hh
  exact ⟨p, hp, hh.1.symm, hh.2.symm⟩

theorem Stamps.all {es : Array MapEntry} {cl : Nat} (s : Stamps es.toList cl) (hne : es.isEmpty = false) : es.all (fun e => decide (e.born ≥ cl)) = false := by
  obtain ⟨l⟩ := es
  cases l with
  | nil => cases hne
  | cons e r =>
    have := s.lt e (List.mem_cons_self ..)
    simp only [List.all_toArray, List.all_cons, Bool.and_eq_false_iff, decide_eq_false_iff_not]
    left; omega

theorem back_push (a : Array Nat) (x : Nat) : (a.push x).back? = some x := by simp

/-- No place stands twice in a model. -/
structure Ms.Once (s : Ms) : Prop where
  w : Pl.Once s.waits
  l : Pl.Once s.left

theorem Pl.once_put {α : Type} {l : Pl α} (h : Pl.Once l) (o t : Int) (x : α) : Pl.Once (l.put o t x) := by
  have key : ∀ (l : Pl α), (l.put o t x).map (fun p => (p.1, p.2.1)) = if (o, t) ∈ l.map (fun p => (p.1, p.2.1)) then l.map (fun p => (p.1, p.2.1)) else l.map (fun p => (p.1, p.2.1)) ++ [(o, t)] := by
    intro l
    induction l with
    | nil => simp [Pl.put]
    | cons p l ih =>
      unfold Pl.put
      by_cases hp : p.1 = o ∧ p.2.1 = t
      · rw [if_pos hp]
        obtain ⟨h1, h2⟩ := hp
        simp [← h1, ← h2]
      · rw [if_neg hp]
        simp only [List.map_cons, ih, List.mem_cons]
        have : ¬(o, t) = (p.1, p.2.1) := fun e => hp (by simp only [Prod.mk.injEq] at e; exact ⟨e.1.symm, e.2.symm⟩)
        by_cases hm : (o, t) ∈ l.map (fun p => (p.1, p.2.1))
        · simp only [hm, or_true, if_true]
        · simp only [this, hm, or_false, if_false, List.cons_append]
  unfold Pl.Once at h ⊢
  rw [key]
  split
  · exact h
  · rename_i hm
    rw [List.nodup_append]
    refine ⟨h, by simp, ?_⟩
    intro a ha b hb
    simp only [List.mem_singleton] at hb
    subst hb
    exact fun e => hm (e ▸ ha)
theorem Pl.del_sub {α : Type} (l : Pl α) (o t : Int) : (l.del o t).Sublist l := by
  induction l with
  | nil => exact .slnil
  | cons p l ih =>
    unfold Pl.del
    split
    · exact List.sublist_cons_self _ _
    · exact ih.cons_cons _
theorem Pl.once_del {α : Type} {l : Pl α} (h : Pl.Once l) (o t : Int) : Pl.Once (l.del o t) := by
  unfold Pl.Once at h ⊢
  exact h.sublist ((Pl.del_sub l o t).map _)


/-- A list that stands once in another one is no longer. -/
theorem nodup_le {α : Type} : ∀ {l m : List α}, l.Nodup → (∀ x ∈ l, x ∈ m) → l.length ≤ m.length := by
  classical
  intro l
  induction l with
  | nil => intro m _ _; simp
  | cons a l ih =>
    intro m hn hs
    have ha := hs a (List.mem_cons_self ..)
    simp only [List.nodup_cons] at hn
    have := ih (m := m.erase a) hn.2 fun x hx => by
      have hne : x ≠ a := fun e => hn.1 (e ▸ hx)
      exact (List.mem_erase_of_ne hne).2 (hs x (List.mem_cons_of_mem _ hx))
    rw [List.length_erase_of_mem ha] at this
    have hp : 0 < m.length := List.length_pos_of_mem ha
    simp only [List.length_cons]
    omega
/-- Places of eight objects and eight threads. -/
def inRng {α : Type} (l : Pl α) : Prop := ∀ p ∈ l, (0 ≤ p.1 ∧ p.1 < 8) ∧ (0 ≤ p.2.1 ∧ p.2.1 < 8)
theorem Pl.once_le {α : Type} {l : Pl α} (h : Pl.Once l) (r : inRng l) : l.length ≤ 64 := by
  have hn : (l.map fun p => (p.1 * 8 + p.2.1).toNat).Nodup := by
    unfold Pl.Once at h
    induction l with
    | nil => simp
    | cons p l ih =>
      simp only [List.map_cons, List.nodup_cons, List.mem_map, not_exists, not_and] at h ⊢
      refine ⟨fun q hq e => h.1 q hq ?_, ih h.2 (fun q hq => r q (List.mem_cons_of_mem _ hq))⟩
      have h1 := r p (List.mem_cons_self ..)
      have h2 := r q (List.mem_cons_of_mem _ hq)
      have e1 : q.1 = p.1 := by omega
      have e2 : q.2.1 = p.2.1 := by omega
      rw [e1, e2]
  have := nodup_le (m := List.range 64) hn fun x hx => by
    obtain ⟨p, hp, rfl⟩ := List.mem_map.1 hx
    have h1 := r p hp
    simp only [List.mem_range]
    omega
  simpa using this

end Go.Md

/-
  SX, part 10: structs of integers, one in another one, are compared.
-/
namespace Go.Sx
open Go

mutual
/-- How many cells, all integers, a type has. -/
def intCells (P : Program) : Nat → TypeId → Option Nat
  | 0, _ => none
  | d + 1, t =>
    match P.underlying t with
    | some (.int _) => some 1
    | some (.struct fs) => (match P.stoodInHeld t with
      | true => none
      | false => (match intFlds P d fs.toList 0 with
        | some n => if Nat.beq (P.cellsOf t) n && !Nat.beq n 0 then some n else none
        | none => none))
    | _ => none
def intFlds (P : Program) : Nat → List Field → Nat → Option Nat
  | _, [], o => some o
  | 0, _ :: _, _ => none
  | d + 1, f :: fs, o =>
    if f.name != "_" && Nat.beq f.offset o then (match intCells P d f.type with | some n => intFlds P d fs (o + n) | none => none) else none
end

/-- Both have integers there, of the same kind. -/
def bothInt (xs ys : Array Value) (off n : Nat) : Prop := ∀ i, i < n → ∃ k a b, xs[off + i]? = some (.int k a) ∧ ys[off + i]? = some (.int k b)
def sameAt (xs ys : Array Value) (off n : Nat) : Prop := ∀ i, i < n → xs[off + i]? = ys[off + i]?

def EqT (P : Program) (d : Nat) (t : TypeId) (n : Nat) : Prop := ∀ (D : Nat) (xs ys : Array Value) (off : Nat), bothInt xs ys off n →
  ∃ va vb r, (∀ w, (part t xs off).run P w = .ok va w) ∧ (∀ w, (part t ys off).run P w = .ok vb w) ∧ (∀ w, (Op.equalIn (d + D) t va vb).run P w = .ok r w) ∧ (r = true ↔ sameAt xs ys off n)

theorem eqFlds {P : Program} {d : Nat} (IH : ∀ d' t n, d' ≤ d → intCells P d' t = some n → EqT P d' t n) : ∀ (dd : Nat) (fs : List Field) (o n : Nat), dd ≤ d + 1 → intFlds P dd fs o = some n → ∀ (D : Nat) (xs ys : Array Value), d ≤ D → bothInt xs ys o (n - o) → o ≤ n ∧
    ∃ r, (∀ w, (Op.eqFields D xs ys fs).run P w = .ok r w) ∧ (r = true ↔ sameAt xs ys o (n - o)) := by
  intro dd fs
  induction fs generalizing dd with
  | nil =>
    intro o n _ h D xs ys _ _
    cases dd <;> simp only [intFlds, Option.some.injEq] at h <;> subst h <;> exact ⟨Nat.le_refl _, true, fun w => rfl, by simp [sameAt]⟩
  | cons f fs ih =>
    intro o n hdd h D xs ys hD hb
    cases dd with
    | zero => simp [intFlds] at h
    | succ dd =>
      unfold intFlds at h
      split at h
      · rename_i hf
        simp only [Bool.and_eq_true, bne_iff_ne, ne_eq] at hf
        obtain ⟨hn, ho⟩ := hf
        have ho := Nat.eq_of_beq_eq_true ho
        cases hc : intCells P dd f.type with
        | none => rw [hc] at h; cases h
        | some m =>
          rw [hc] at h
          simp only [] at h
          -- how far it goes
          have far : o + m ≤ n := by
            clear ih hb
            have : ∀ (dd : Nat) (fs : List Field) (o n : Nat), intFlds P dd fs o = some n → o ≤ n := by
              intro dd fs
              induction fs generalizing dd with
              | nil => intro o n h; cases dd <;> simp only [intFlds, Option.some.injEq] at h <;> omega
              | cons f fs ih =>
                intro o n h
                cases dd with
                | zero => simp [intFlds] at h
                | succ dd =>
                  unfold intFlds at h
                  split at h
                  · cases hc : intCells P dd f.type with
                    | none => rw [hc] at h; cases h
                    | some m => rw [hc] at h; have := ih _ _ _ h; omega
                  · cases h
            exact this _ _ _ _ h
          obtain ⟨va, vb, r1, p1, p2, p3, hiff⟩ := IH dd f.type m (by omega) hc (D - dd) xs ys o (fun i hi => hb i (by omega))
          rw [show dd + (D - dd) = D from by omega] at p3
          obtain ⟨_, r2, q, hiff2⟩ := ih dd (o + m) n (by omega) h D xs ys hD (fun i hi => by have := hb (m + i) (by omega); simpa [Nat.add_assoc] using this)
          refine ⟨by omega, r1 && r2, fun w => ?_, ?_⟩
          · unfold Op.eqFields
            rw [if_pos hn, Sem.run_bind, ho, p1]
            simp only [Result.andThen_ok]
            rw [Sem.run_bind, p2]
            simp only [Result.andThen_ok]
            rw [Sem.run_bind, p3]
            simp only [Result.andThen_ok]
            cases r1
            · simp
            · simp only [Bool.not_true, Bool.false_eq_true, if_false, Bool.true_and]
              exact q w
          · rw [Bool.and_eq_true, hiff, hiff2]
            constructor
            · rintro ⟨a, b⟩ i hi
              by_cases him : i < m
              · exact a i him
              · have := b (i - m) (by omega)
                rw [show o + m + (i - m) = o + i from by omega] at this
                exact this
            · intro a
              exact ⟨fun i hi => a i (by omega), fun i hi => by have := a (m + i) (by omega); simpa [Nat.add_assoc] using this⟩
      · cases h

theorem eqT {P : Program} : ∀ (d : Nat) (t : TypeId) (n : Nat), intCells P d t = some n → EqT P d t n := by
  intro d
  induction d using Nat.strongRecOn with
  | _ d IH =>
    intro t n h
    cases d with
    | zero => simp [intCells] at h
    | succ d =>
      unfold intCells at h
      cases hu : P.underlying t with
      | none => rw [hu] at h; cases h
      | some k =>
        rw [hu] at h
        cases k <;> simp only [reduceCtorEq] at h
        case int k =>
          simp only [Option.some.injEq] at h
          subst h
          intro D xs ys off hb
          obtain ⟨k', a, b, hx, hy⟩ := hb 0 (by omega)
          refine ⟨.int k' a, .int k' b, a == b, fun w => ?_, fun w => ?_, fun w => ?_, ?_⟩
          · unfold part isAgg; simp at hx; simp [run_underlying hu, hx]
          · unfold part isAgg; simp at hy; simp [run_underlying hu, hy]
          · rw [show d + 1 + D = (d + D) + 1 from by omega]; exact run_equalIn_int w _ t k' k a b hu
          · simp only [beq_iff_eq]
            constructor
            · rintro rfl i hi
              have : i = 0 := by omega
              subst this; rw [hx, hy]
            · intro hs
              have := hs 0 (by omega)
              rw [hx, hy] at this
              simpa using this
        case struct fs =>
          cases hp : P.stoodInHeld t with
          | true => rw [hp] at h; cases h
          | false =>
            rw [hp] at h
            simp only [] at h
            cases hf : intFlds P d fs.toList 0 with
            | none => rw [hf] at h; cases h
            | some m =>
              rw [hf] at h
              simp only [] at h
              split at h
              · rename_i hsz
                simp only [Option.some.injEq] at h
                subst h
                simp only [Bool.and_eq_true, Bool.not_eq_true'] at hsz
                have hcz := Nat.eq_of_beq_eq_true hsz.1
                have hm0 : m ≠ 0 := fun e => by subst e; simp at hsz
                intro D xs ys off hb
                have hz : P.cellsOf t ≠ 0 := by rw [hcz]; exact hm0
                have prt : ∀ zs : Array Value, ∀ w, (part t zs off).run P w = .ok (.agg (zs.extract off (off + m))) w := by
                  intro zs w
                  have h1 := reads_sizeOf (P := P) (h := fun _ => none) (cellsOf_info hz) w w ⟨Quiet.refl w, fun _ _ x => by cases x⟩
                  unfold part isAgg
                  simp only [Sem.run_bind, run_underlying hu, Result.andThen_ok, Sem.run_pure, if_true]
                  rw [h1, hcz]; rfl
                have ext : ∀ zs : Array Value, off + m ≤ zs.size → ∀ i, i < m → (zs.extract off (off + m))[i]? = zs[off + i]? := by
                  intro zs hl i hi
                  rw [Array.getElem?_extract, if_pos (by omega)]
                have szx : off + m ≤ xs.size ∧ off + m ≤ ys.size := by
                  obtain ⟨_, _, _, hx, hy⟩ := hb (m - 1) (by omega)
                  have h1 := (Array.getElem?_eq_some_iff.1 hx).1
                  have h2 := (Array.getElem?_eq_some_iff.1 hy).1
                  omega
                have hb' : bothInt (xs.extract off (off + m)) (ys.extract off (off + m)) 0 (m - 0) := by
                  intro i hi
                  obtain ⟨k, a, b, hx, hy⟩ := hb i (by omega)
                  exact ⟨k, a, b, by rw [Nat.zero_add, ext xs szx.1 i (by omega)]; exact hx, by rw [Nat.zero_add, ext ys szx.2 i (by omega)]; exact hy⟩
                have hF : P.fieldsOf t = fs := by simp [Program.fieldsOf, hu]
                obtain ⟨_, r, q, hiff⟩ := eqFlds (P := P) (d := d) (fun d' t n hd' hc => IH d' (by omega) t n hc) d fs.toList 0 m (by omega) hf (d + D) _ _ (by omega) hb'
                refine ⟨_, _, r, prt xs, prt ys, fun w => ?_, ?_⟩
                · rw [show d + 1 + D = (d + D) + 1 from by omega, run_equalIn_agg w _ t _ _ (by rw [hF]; exact hu) hp, hF]
                  exact q w
                · rw [hiff]
                  constructor
                  · intro a i hi
                    have := a i (by omega)
                    rw [Nat.zero_add, ext xs szx.1 i (by omega), ext ys szx.2 i (by omega)] at this
                    exact this
                  · intro a i hi
                    rw [Nat.zero_add, ext xs szx.1 i (by omega), ext ys szx.2 i (by omega)]
                    exact a i (by omega)
              · cases h

/-- Two rows of integers of a struct's type. -/
theorem eqLaw_deep {P : Program} {t : TypeId} {n d : Nat} {xs ys : Array Value} (h : ((match intCells P d t with | some m => Nat.beq m n | none => false) && (match P.underlying t with | some (.struct _) => true | _ => false) && !P.eqGuardType P.depth t && Nat.ble d 10000) = true) (hx : xs.size = n) (hy : ys.size = n) (hb : bothInt xs ys 0 n) :
    ∃ r, EqLaw P t (.agg xs) (.agg ys) r ∧ (r = true ↔ xs = ys) := by
  simp only [Bool.and_eq_true, Bool.not_eq_true'] at h
  obtain ⟨⟨⟨h1, h2⟩, h3⟩, h4⟩ := h
  cases hc : intCells P d t with
  | none => rw [hc] at h1; cases h1
  | some m =>
    rw [hc] at h1
    have hm := Nat.eq_of_beq_eq_true h1
    subst hm
    have h4 := Nat.le_of_ble_eq_true h4
    obtain ⟨va, vb, r, p1, p2, p3, hiff⟩ := eqT d t m hc (10000 - d) xs ys 0 hb
    rw [show d + (10000 - d) = 10000 from by omega] at p3
    -- what stands there is all of it
    have cells : m = P.cellsOf t ∧ m ≠ 0 := by
      cases d with
      | zero => simp [intCells] at hc
      | succ d =>
        unfold intCells at hc
        cases hu : P.underlying t with
        | none => rw [hu] at h2; cases h2
        | some k =>
          rw [hu] at hc h2
          cases k <;> simp only [Bool.false_eq_true] at h2 hc
          cases hp : P.stoodInHeld t with
          | true => rw [hp] at hc; cases hc
          | false =>
            rw [hp] at hc
            simp only [] at hc
            split at hc
            · split at hc
              · rename_i hsz
                simp only [Option.some.injEq] at hc
                subst hc
                simp only [Bool.and_eq_true, Bool.not_eq_true'] at hsz
                exact ⟨(Nat.eq_of_beq_eq_true hsz.1).symm, fun e => by subst e; simp at hsz⟩
              · cases hc
            · cases hc
    have whole : ∀ (zs : Array Value) (v : Value), zs.size = m → (∀ w, (part t zs 0).run P w = .ok v w) → v = .agg zs := by
      intro zs v hs hp
      have w : World := default
      have h1 := reads_sizeOf (P := P) (h := fun _ => none) (cellsOf_info (t := t) (by rw [← cells.1]; exact cells.2)) w w ⟨Quiet.refl w, fun _ _ x => by cases x⟩
      have := hp w
      cases hu : P.underlying t with
      | none => rw [hu] at h2; cases h2
      | some k =>
        rw [hu] at h2
        cases k <;> simp only [Bool.false_eq_true] at h2
        unfold part isAgg at this
        simp only [Sem.run_bind, run_underlying hu, Result.andThen_ok, Sem.run_pure, if_true] at this
        rw [h1, ← cells.1] at this
        simp only [Result.andThen_ok, Result.ok.injEq, and_true] at this
        rw [← this]; congr 1
        apply Array.ext (by simp [hs])
        intro i h1 h2
        simp
    have e1 := whole xs va hx p1
    have e2 := whole ys vb hy p2
    subst e1; subst e2
    refine ⟨r, ⟨h3, p3⟩, ?_⟩
    rw [hiff]
    constructor
    · intro a
      apply Array.ext (by omega)
      intro i h1 h2
      have := a i (by omega)
      simpa [h1, h2] using this
    · rintro rfl i hi; rfl

end Go.Sx

/-
  SX, part 11: rows of records in memory.
-/
namespace Go.Sx
open Go

/-- Records, one behind the other, and what is behind them. -/
def recArr {α : Type} (enc : α → List Value) (l : List α) (junk : List Value) : Array Value := ((l.map enc).flatten ++ junk).toArray
/-- 'setN' of a list. -/
def setW (c : List Value) (off : Nat) : List Value → List Value
  | [] => c
  | v :: vs => setW (c.set off v) (off + 1) vs
theorem setN_setW (l : List Value) (o : Nat) (vs : List Value) : setN l.toArray o vs = (setW l o vs).toArray := by
  induction vs generalizing l o with
  | nil => rfl
  | cons v vs ih => simp only [setN, setW, List.setIfInBounds_toArray]; exact ih _ _
theorem setW_skip (a r : List Value) (o : Nat) (vs : List Value) : setW (a ++ r) (a.length + o) vs = a ++ setW r o vs := by
  induction vs generalizing r o with
  | nil => rfl
  | cons v vs ih =>
    simp only [setW]
    rw [List.set_append_right _ _ (by omega), show a.length + o - a.length = o from by omega, show a.length + o + 1 = a.length + (o + 1) from by omega]
    exact ih _ _
theorem setW_front (x r : List Value) (k : Nat) (vs : List Value) (h : k + vs.length ≤ x.length) : setW (x ++ r) k vs = setW x k vs ++ r := by
  induction vs generalizing x k with
  | nil => rfl
  | cons v vs ih =>
    simp only [List.length_cons] at h
    simp only [setW]
    rw [List.set_append_left _ _ (by omega)]
    exact ih _ _ (by simp; omega)

section
variable {α : Type} {enc : α → List Value} {w : Nat}
theorem rec_len (hw : ∀ a, (enc a).length = w) (l : List α) : ((l.map enc).flatten).length = l.length * w := by
  induction l with
  | nil => simp
  | cons a l ih => simp only [List.map_cons, List.flatten_cons, List.length_append, List.length_cons, ih, hw]; rw [Nat.add_mul]; omega
theorem rec_size (hw : ∀ a, (enc a).length = w) {l : List α} {junk : List Value} : (recArr enc l junk).size = l.length * w + junk.length := by
  unfold recArr; simp only [List.size_toArray, List.length_append, rec_len hw]
theorem rec_get (hw : ∀ a, (enc a).length = w) {l : List α} {junk : List Value} {n : Nat} (a : α) (h : l[n]? = some a) (k : Nat) (hk : k < w) : (recArr enc l junk)[n * w + k]? = (enc a)[k]? := by
  unfold recArr
  simp only [List.getElem?_toArray]
  induction l generalizing n with
  | nil => simp at h
  | cons b l ih =>
    cases n with
    | zero =>
      simp only [List.getElem?_cons_zero, Option.some.injEq] at h
      subst h
      simp only [List.map_cons, List.flatten_cons, List.append_assoc, Nat.zero_mul, Nat.zero_add]
      rw [List.getElem?_append_left (by rw [hw]; omega)]
    | succ n =>
      simp only [List.map_cons, List.flatten_cons, List.append_assoc]
      rw [List.getElem?_append_right (by rw [hw, Nat.add_mul]; omega)]
      rw [show (n + 1) * w + k - (enc b).length = n * w + k from by rw [hw, Nat.add_mul]; omega]
      exact ih (by simpa using h)
theorem rec_set (hw : ∀ a, (enc a).length = w) {l : List α} {junk : List Value} {n : Nat} (a b : α) (h : l[n]? = some a) (k : Nat) (vs : List Value) (hm : setW (enc a) k vs = enc b) (hk : k + vs.length ≤ w) :
    setN (recArr enc l junk) (n * w + k) vs = recArr enc (l.set n b) junk := by
  unfold recArr
  rw [setN_setW]
  congr 1
  induction l generalizing n with
  | nil => simp at h
  | cons c l ih =>
    cases n with
    | zero =>
      simp only [List.getElem?_cons_zero, Option.some.injEq] at h
      subst h
      simp only [List.map_cons, List.flatten_cons, List.append_assoc, List.set_cons_zero]
      rw [show 0 * w + k = k from by omega, setW_front (enc c) _ k vs (by rw [hw]; omega), hm]
    | succ n =>
      simp only [List.map_cons, List.flatten_cons, List.append_assoc, List.set_cons_succ]
      rw [show (n + 1) * w + k = (enc c).length + (n * w + k) from by rw [hw, Nat.add_mul]; omega, setW_skip]
      rw [ih (by simpa using h)]
theorem rec_snoc (l : List α) (a : α) (junk : List Value) : (((l.map enc).flatten) ++ enc a ++ junk).toArray = recArr enc (l ++ [a]) junk := by
  unfold recArr; simp
end

/-- Two rows of integers of a struct's type, as lists. -/
theorem eqLaw_list {P : Program} {t : TypeId} (n d : Nat) (h : ((match intCells P d t with | some m => Nat.beq m n | none => false) && (match P.underlying t with | some (.struct _) => true | _ => false) && !P.eqGuardType P.depth t && Nat.ble d 10000) = true) (xs ys : List Int) (hx : xs.length = n) (hy : ys.length = n) :
    ∃ r, EqLaw P t (.agg (xs.map (Value.int .i64)).toArray) (.agg (ys.map (Value.int .i64)).toArray) r ∧ (r = true ↔ xs = ys) := by
  obtain ⟨r, l, hr⟩ := eqLaw_deep (P := P) (t := t) (n := n) (d := d) (xs := (xs.map (Value.int .i64)).toArray) (ys := (ys.map (Value.int .i64)).toArray) h (by simpa using hx) (by simpa using hy) (by
    intro i hi
    refine ⟨.i64, xs[i]'(by omega), ys[i]'(by omega), ?_, ?_⟩
    · simp [show i < xs.length by omega]
    · simp [show i < ys.length by omega])
  refine ⟨r, l, hr.trans ⟨fun e => ?_, fun e => by rw [e]⟩⟩
  have e := congrArg Array.toList e
  simp only [] at e
  have inj : ∀ (a b : List Int), a.map (Value.int .i64) = b.map (Value.int .i64) → a = b := by
    intro a
    induction a with
    | nil => intro b h; cases b <;> simp at h ⊢
    | cons x a ih =>
      intro b h
      cases b with
      | nil => simp at h
      | cons y b => simp only [List.map_cons, List.cons.injEq, Value.int.injEq, true_and] at h; rw [h.1, ih b h.2]
  exact inj _ _ e

theorem none_of {g g' : PH} {b : Nat} (l : g.le g') (n : g' b = none) : g b = none := by
  cases hg : g b with
  | none => rfl
  | some O => rw [l _ _ hg] at n; cases n
theorem upd_del' {h : PH} {b : Nat} {O : Obj} (n : h b = none) : (h.upd b O).del b = h := by
  funext x; simp only [del_at, upd_at]; split
  · rename_i e; subst e; exact n.symm
  · rfl

end Go.Sx

/-
  SX, part 12: what comes in: rows of plain cells, out of a reading.
-/
namespace Go.Sx
open Go Go.RowKit

mutual
/-- A type's cells, all plain: integers, bools, strings. -/
def plainCells (P : Program) : Nat → TypeId → Option (List At)
  | 0, _ => none
  | d + 1, t =>
    match P.underlying t with
    | some (.int k) => some [.int k]
    | some .bool => some [.bool]
    | some .string => some [.str]
    | some (.struct fs) => (match plainFlds P d fs.toList 0 with
      | some l => if Nat.beq (P.cellsOf t) l.length then some l else none
      | none => none)
    | some (.array n e) => (match plainCells P d e with
      | some l => if Nat.beq (P.cellsOf e) l.length && Nat.beq (P.cellsOf t) (n * l.length) then some (List.replicate n l).flatten else none
      | none => none)
    | _ => none
def plainFlds (P : Program) : Nat → List Field → Nat → Option (List At)
  | _, [], _ => some []
  | 0, _ :: _, _ => none
  | d + 1, f :: fs, o =>
    if Nat.beq f.offset o then (match plainCells P d f.type with
      | some l => if Nat.beq (P.cellsOf f.type) l.length then (match plainFlds P d fs (o + l.length) with | some r => some (l ++ r) | none => none) else none
      | none => none)
    else none
end

def PlainV : At → Value → Prop
  | .int k, v => ∃ n, v = .int k n ∧ (Lit.int k n).wf = true
  | .bool, v => ∃ b, v = .bool b
  | .str, v => ∃ s, v = .string s ∧ s.size ≤ maxLen
  | _, _ => False
/-- Cells of these kinds, one behind the other. -/
inductive Plains : List At → List Value → Prop
  | nil : Plains [] []
  | cons {a v l r} (h : PlainV a v) (t : Plains l r) : Plains (a :: l) (v :: r)
theorem Plains.append {l l' : List At} {r r' : List Value} (h : Plains l r) (h' : Plains l' r') : Plains (l ++ l') (r ++ r') := by
  induction h with
  | nil => exact h'
  | cons h _ ih => exact .cons h ih
theorem Plains.len {l : List At} {r : List Value} (h : Plains l r) : r.length = l.length := by
  induction h with
  | nil => rfl
  | cons _ _ ih => simp [ih]

section
variable {H : Type} {enc : TypeId × Value → H} {P : Program} {w : World} {base : Nat} {spare : Nat → Bool} {held : Bool}

theorem plains_trod : ∀ (d fuel : Nat) (t : TypeId) (cs : List Value) (l : List At) (x : DataW H × List MemPlace), plainCells P d t = some l → DataW.trod enc P w base spare held fuel t cs = some x → Plains l cs := by
  intro d
  induction d using Nat.strongRecOn with
  | _ d IH =>
    intro fuel t cs l x hp h
    cases d with
    | zero => simp [plainCells] at hp
    | succ d =>
      cases fuel with
      | zero => simp [DataW.trod] at h
      | succ fuel =>
        unfold plainCells at hp
        cases hu : P.underlying t with
        | none => rw [hu] at hp; cases hp
        | some k =>
          rw [hu] at hp
          cases k <;> simp only [reduceCtorEq, Option.some.injEq] at hp
          case int k =>
            subst hp
            obtain ⟨n, rfl, _, hw⟩ := DataW.trod_int hu h
            exact .cons ⟨n, rfl, hw⟩ .nil
          case bool =>
            subst hp
            unfold DataW.trod at h
            simp only [hu] at h
            split at h
            all_goals first | cases h; done | skip
            all_goals simp_all
            all_goals exact .cons ⟨_, rfl⟩ .nil
          case string =>
            subst hp
            unfold DataW.trod at h
            simp only [hu] at h
            split at h
            all_goals first | cases h; done | skip
            all_goals simp_all
            all_goals exact .cons ⟨_, rfl, h.1⟩ .nil
          case struct fs =>
            cases hf : plainFlds P d fs.toList 0 with
            | none => rw [hf] at hp; cases hp
            | some l' =>
              rw [hf] at hp
              simp only [] at hp
              split at hp
              · rename_i hsz
                have hsz := Nat.eq_of_beq_eq_true hsz
                simp only [Option.some.injEq] at hp
                subst hp
                have h2 : cs.length = P.cellsOf t ∧ ∃ xs, fs.toList.mapM (fun f => DataW.trod enc P w base spare held fuel f.type ((cs.drop f.offset).take (P.cellsOf f.type))) = some xs := by
                  unfold DataW.trod at h
                  simp only [hu] at h
                  split at h
                  · rename_i hl
                    cases hm : fs.toList.mapM (fun f => DataW.trod enc P w base spare held fuel f.type ((cs.drop f.offset).take (P.cellsOf f.type))) with
                    | none => rw [hm] at h; cases h
                    | some xs => exact ⟨hl, xs, rfl⟩
                  · cases h
                obtain ⟨hl, xs, hm⟩ := h2
                have flds : ∀ (dd : Nat) (fs : List Field) (o : Nat) (r : List At) (xs : List (DataW H × List MemPlace)), dd ≤ d → plainFlds P dd fs o = some r → fs.mapM (fun f => DataW.trod enc P w base spare held fuel f.type ((cs.drop f.offset).take (P.cellsOf f.type))) = some xs → Plains r ((cs.drop o).take r.length) := by
                  intro dd fs
                  induction fs generalizing dd with
                  | nil =>
                    intro o r xs _ hr _
                    cases dd <;> simp only [plainFlds, Option.some.injEq] at hr <;> subst hr <;> simpa using Plains.nil
                  | cons f fs ih =>
                    intro o r xs hdd hr hx
                    cases dd with
                    | zero => simp [plainFlds] at hr
                    | succ dd =>
                      unfold plainFlds at hr
                      split at hr
                      · rename_i ho
                        have ho := Nat.eq_of_beq_eq_true ho
                        cases hc : plainCells P dd f.type with
                        | none => rw [hc] at hr; cases hr
                        | some l1 =>
                          rw [hc] at hr
                          simp only [] at hr
                          split at hr
                          · rename_i hz
                            have hz := Nat.eq_of_beq_eq_true hz
                            cases hq : plainFlds P dd fs (o + l1.length) with
                            | none => rw [hq] at hr; cases hr
                            | some r1 =>
                              rw [hq] at hr
                              simp only [Option.some.injEq] at hr
                              subst hr
                              rw [List.mapM_cons] at hx
                              cases h1 : DataW.trod enc P w base spare held fuel f.type ((cs.drop f.offset).take (P.cellsOf f.type)) with
                              | none => rw [h1] at hx; cases hx
                              | some y =>
                                rw [h1] at hx
                                cases h2 : fs.mapM (fun f => DataW.trod enc P w base spare held fuel f.type ((cs.drop f.offset).take (P.cellsOf f.type))) with
                                | none => rw [h2] at hx; cases hx
                                | some ys =>
                                  have a := IH dd (by omega) fuel f.type _ _ y hc h1
                                  rw [ho, hz] at a
                                  have b := ih dd (o + l1.length) r1 ys (by omega) hq h2
                                  have := a.append b
                                  rw [List.length_append, List.take_add, List.drop_drop]
                                  exact this
                          · cases hr
                      · cases hr
                have := flds d fs.toList 0 l' xs (Nat.le_refl _) hf hm
                rw [List.drop_zero, ← hsz, ← hl, List.take_length] at this
                exact this
              · cases hp
          case array n e =>
            cases hf : plainCells P d e with
            | none => rw [hf] at hp; cases hp
            | some l' =>
              rw [hf] at hp
              simp only [] at hp
              split at hp
              · rename_i hsz
                simp only [Bool.and_eq_true] at hsz
                have hs1 := Nat.eq_of_beq_eq_true hsz.1
                have hs2 := Nat.eq_of_beq_eq_true hsz.2
                simp only [Option.some.injEq] at hp
                subst hp
                have h2 : cs.length = P.cellsOf t ∧ ∃ xs, (List.range n).mapM (fun i => DataW.trod enc P w base spare held fuel e ((cs.drop (i * P.cellsOf e)).take (P.cellsOf e))) = some xs := by
                  unfold DataW.trod at h
                  simp only [hu] at h
                  split at h
                  · rename_i hl
                    cases hm : (List.range n).mapM (fun i => DataW.trod enc P w base spare held fuel e ((cs.drop (i * P.cellsOf e)).take (P.cellsOf e))) with
                    | none => rw [hm] at h; cases h
                    | some xs => exact ⟨hl, xs, rfl⟩
                  · cases h
                obtain ⟨hl, xs, hm⟩ := h2
                have each : ∀ i, i < n → Plains l' ((cs.drop (i * l'.length)).take l'.length) := by
                  intro i hi
                  have : ∀ (is : List Nat) (xs : List (DataW H × List MemPlace)), is.mapM (fun i => DataW.trod enc P w base spare held fuel e ((cs.drop (i * P.cellsOf e)).take (P.cellsOf e))) = some xs → ∀ i ∈ is, ∃ y, DataW.trod enc P w base spare held fuel e ((cs.drop (i * P.cellsOf e)).take (P.cellsOf e)) = some y := by
                    intro is
                    induction is with
                    | nil => intro _ _ i hi; cases hi
                    | cons j is ih =>
                      intro xs hx i hi
                      rw [List.mapM_cons] at hx
                      cases h1 : DataW.trod enc P w base spare held fuel e ((cs.drop (j * P.cellsOf e)).take (P.cellsOf e)) with
                      | none => rw [h1] at hx; cases hx
                      | some y =>
                        rw [h1] at hx
                        cases h2 : is.mapM (fun i => DataW.trod enc P w base spare held fuel e ((cs.drop (i * P.cellsOf e)).take (P.cellsOf e))) with
                        | none => rw [h2] at hx; cases hx
                        | some ys =>
                          rcases List.mem_cons.1 hi with rfl | hi
                          · exact ⟨y, h1⟩
                          · exact ih ys h2 i hi
                  obtain ⟨y, hy⟩ := this _ _ hm i (by simpa using hi)
                  have := IH d (by omega) fuel e _ _ y hf hy
                  rw [hs1] at this
                  exact this
                have all : ∀ m, m ≤ n → Plains (List.replicate m l').flatten (cs.take (m * l'.length)) := by
                  intro m
                  induction m with
                  | zero => intro _; simpa using Plains.nil
                  | succ m ih =>
                    intro hm
                    rw [List.replicate_succ', List.flatten_append, Nat.add_mul, List.take_add, Nat.one_mul]
                    have := (ih (by omega)).append (each m (by omega))
                    simpa using this
                have := all n (Nat.le_refl _)
                rw [← hs2, ← hl, List.take_length] at this
                exact this
              · cases hp
end

/-- A struct that comes in. -/
theorem plains_arg {H : Type} {enc : TypeId × Value → H} {P : Program} {w : World} {base base' : Nat} {spare : Nat → Bool} {held : Bool} {t : TypeId} {v : Value} {d : DataW H} {ps : List MemPlace} {l : List At} (n : Nat)
    (hl : plainCells P n t = some l) (hs : (match P.underlying t with | some (.struct _) | some (.array _ _) => true | _ => false) = true) (ho : Value.okWide P w .any base' t v) (h : DataW.Trod enc P w base spare held t v d ps) : ∃ cs : Array Value, v = .agg cs ∧ Plains l cs.toList := by
  obtain ⟨fuel, hf⟩ := h
  have key : ∃ cs, v = .agg cs := by
    unfold Value.okWide at ho
    split at ho
    · obtain ⟨cs, e, _⟩ := ho; exact ⟨cs, e⟩
    · obtain ⟨cs, e, _⟩ := ho; exact ⟨cs, e⟩
    · rename_i h1 h2
      cases hu : P.underlying t with
      | none => rw [hu] at hs; cases hs
      | some k =>
        rw [hu] at hs
        cases k <;> simp only [Bool.false_eq_true] at hs
        · exact absurd hu (h2 _ _)
        · exact absurd hu (h1 _)
  obtain ⟨cs, rfl⟩ := key
  exact ⟨cs, rfl, plains_trod n fuel t cs.toList l _ hl hf⟩

theorem Plains.int {k : IntKind} {l : List At} {r : List Value} (h : Plains (.int k :: l) r) : ∃ n r', r = .int k n :: r' ∧ (Lit.int k n).wf = true ∧ Plains l r' := by
  cases h with
  | cons h t => obtain ⟨n, rfl, hw⟩ := h; exact ⟨n, _, rfl, hw, t⟩
theorem Plains.bool {l : List At} {r : List Value} (h : Plains (.bool :: l) r) : ∃ b r', r = .bool b :: r' ∧ Plains l r' := by
  cases h with
  | cons h t => obtain ⟨n, rfl⟩ := h; exact ⟨n, _, rfl, t⟩
theorem Plains.done {r : List Value} (h : Plains [] r) : r = [] := by cases h; rfl

/-- What is known of a world: all of it. -/
def whole (W : World) : PH := fun b => W.heap[b]?
/-- What a contract says to a row. -/
theorem below_of {P : Program} {f : FuncId} {args : Array Value} {W : World} {r : Value} (m : Meets P f args (whole W) fun v h' => v = r ∧ h' = whole W) : Calls P f args W fun e w' => e = .returned r ∧ Below W.heap.size W w' := by
  refine (m W W ⟨Quiet.refl W, fun b O h => h⟩).mono ?_
  rintro e w' ⟨v, h', rfl, st, rfl, rfl⟩
  have blk : ∀ k, k < W.heap.size → w'.heap[k]? = W.heap[k]? := by
    intro k hk
    have e1 : W.heap[k]? = some W.heap[k] := Array.getElem?_eq_getElem hk
    rw [e1]; exact st.sh k _ e1
  refine ⟨rfl, st.q.os, st.q.tape, st.q.output, ?_, blk⟩
  rcases Nat.eq_zero_or_pos W.heap.size with h0 | h0
  · omega
  · have := blk (W.heap.size - 1) (by omega)
    have e1 : W.heap[W.heap.size - 1]? = some (W.heap[W.heap.size - 1]'(by omega)) := Array.getElem?_eq_getElem (by omega)
    rw [e1] at this
    have := (Array.getElem?_eq_some_iff.1 this).1
    omega

end Go.Sx
