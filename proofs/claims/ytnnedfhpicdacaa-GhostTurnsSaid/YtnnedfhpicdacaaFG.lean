/- The readings of some functions, printed by a program of the session (wip/tools/sx.py): each by one equation that the kernel reckons. -/
import Derived.Test.YtnnedfhpicdacaaRows
import Derived.Test.YtnnedfhpicdacaaFM
set_option linter.unusedVariables false
namespace Go.Proofs.Ytnnedfhpicdacaa
open Go Go.Sx Go.Proofs
/-- futtock/ghost.New -/
def A_ghost_New : Ann := .seq (.leaf) (.seq (.leaf) (.seq (.seq (.leaf) (.cond [] (.seq (.leaf) (.leaf)) (.leaf))) (.seq (.leaf) (.leaf))))
def P_ghost_New (a0 : Int) (a1 : Int) (a2 : Int) (h : PH) (Q : Value → PH → Prop) : Prop :=
 Meets Try.prog 11 #[(.int .i64 a0), (.int .i64 a1), (.int .i64 a2)] h fun v14 h_1 =>
 oTup v14 2 fun x14cs =>
 oIx x14cs[0]? fun x14w =>
 oP (some x14w) fun x14_0 =>
 oIx x14cs[1]? fun x14w_1 =>
 oI .i64 (some x14w_1) fun x14_1 =>
 oP (some (.pointer x14_0)) fun x15 =>
 oI .i64 (some (.int .i64 x14_1)) fun x16 =>
 xIte (x16 != 0) (fun J_1 =>
 Q (.tuple #[(.pointer none), (.int .i64 x16)]) h_1)
 (fun J_1 =>
 J_1 h_1)
 (fun  (h_2 : PH) =>
 xMake h_2 147 #[(.int .i64 0), (.int .i64 0), (.int .i64 0), (.int .i64 0), (.bool false), (.int .i64 0), (.int .i64 0), (.int .i64 0), (.int .i64 0), (.int .i64 0), (.int .i64 0)] 88 a0 a0 fun x23a x23l x23c h_3 =>
 xNew h_3 (.cells #[(.int .i64 a1), (.pointer x15), (.slice x23a x23l x23c), (.slice none 0 0)] 109 (0, 0)) fun b25 h_4 =>
 Q (.tuple #[(.pointer (some (⟨b25, 0, none⟩ : Addr))), (.int .i64 0)]) h_4)
theorem P_ghost_New_eq (a0 : Int) (a1 : Int) (a2 : Int) (h : PH) (Q : Value → PH → Prop) : dFn Try.prog Try.f39 A_ghost_New #[(.int .i64 a0), (.int .i64 a1), (.int .i64 a2)] h Q = P_ghost_New a0 a1 a2 h Q := by kernel_rfl
theorem P_ghost_New_of {a0 : Int} {a1 : Int} {a2 : Int} {h : PH} {Q : Value → PH → Prop} (x : P_ghost_New a0 a1 a2 h Q) : Meets Try.prog 39 #[(.int .i64 a0), (.int .i64 a1), (.int .i64 a2)] h Q :=
  spec_of Try.func39 mix (by kernel_rfl) ((P_ghost_New_eq a0 a1 a2 h Q).symm ▸ x)
/-- (*futtock/ghost.Log).Add -/
def A_ghost_Log_Add : Ann := .seq (.leaf) (.seq (.block [] (.seq (.leaf) (.cond [] (.seq (.leaf) (.leaf)) (.seq (.draw [(0, .flt), (1, .eff), (2, .flt), (3, .flt), (4, .flt), (5, .flt), (6, .flt), (7, .flt), (8, .flt), (9, .flt), (10, .flt), (11, .flt), (12, .flt), (13, .flt), (14, .flt), (15, .flt), (16, .flt), (17, .flt), (18, .flt)]) (.cond [] (.seq (.leaf) (.leaf)) (.leaf)))))) (.seq (.draw [(0, .flt), (1, .flt), (2, .flt), (3, .flt), (4, .flt), (5, .flt), (6, .flt), (7, .flt)]) (.seq (.seq (.leaf) (.block [] (.seq (.leaf) (.cond [] (.seq (.seq (.draw [(0, .flt), (1, .flt), (2, .flt), (3, .flt), (4, .flt), (5, .flt), (6, .flt), (7, .flt), (8, .flt), (9, .flt), (10, .flt), (11, .flt), (12, .flt), (13, .flt), (14, .flt), (15, .flt), (16, .flt), (17, .eff), (18, .flt), (19, .flt)]) (.cond [] (.seq (.leaf) (.leaf)) (.leaf))) (.draw [(0, .flt), (1, .flt), (2, .flt), (3, .flt), (4, .flt), (5, .flt), (6, .flt), (7, .flt), (8, .flt), (9, .flt), (10, .brk)])) (.seq (.leaf) (.cond [] (.seq (.seq (.draw [(0, .flt), (1, .flt), (2, .flt), (3, .flt), (4, .flt), (5, .eff), (6, .flt), (7, .flt), (8, .flt), (9, .flt), (10, .flt), (11, .flt), (12, .flt), (13, .flt), (14, .eff), (15, .flt), (16, .flt)]) (.cond [] (.seq (.leaf) (.leaf)) (.leaf))) (.seq (.leaf) (.leaf))) (.seq (.leaf) (.cond [] (.seq (.leaf) (.seq (.seq (.draw [(0, .flt), (1, .flt), (2, .flt), (3, .flt), (4, .flt), (5, .flt), (6, .flt), (7, .flt), (8, .flt), (9, .flt), (10, .flt), (11, .flt), (12, .flt), (13, .flt), (14, .flt), (15, .flt), (16, .flt), (17, .flt), (18, .flt), (19, .flt), (20, .flt), (21, .flt), (22, .flt), (23, .flt)]) (.cond [] (.seq (.leaf) (.leaf)) (.leaf))) (.leaf))) (.leaf))))))))) (.seq (.draw [(0, .flt), (1, .flt), (2, .flt), (3, .flt), (4, .flt), (5, .flt), (6, .eff), (7, .eff), (8, .brk), (9, .brk), (10, .brk)]) (.seq (.leaf) (.leaf))))))
def P_ghost_Log_Add (a0 : Option Addr) (a1_0 : Int) (a1_1 : Int) (a1_2 : Int) (a1_3 : Int) (a1_4 : Int) (a1_5 : Int) (a1_6 : Int) (a1_7 : Int) (a1_8 : Int) (a1_9 : Int) (a1_10 : Int) (a1_11 : Int) (a1_12 : Int) (h : PH) (Q : Value → PH → Prop) : Prop :=
 xNew h (.cells #[(.int .i64 a1_0), (.int .i64 a1_1), (.int .i64 a1_2), (.int .i64 a1_3), (.int .i64 a1_4), (.int .i64 a1_5), (.int .i64 a1_6), (.int .i64 a1_7), (.int .i64 a1_8), (.int .i64 a1_9), (.int .i64 a1_10), (.int .i64 a1_11), (.int .i64 a1_12)] 90 (0, 0)) fun b3 h_1 =>
 xBlk (fun J_1 =>
 Meets Try.prog 69 #[(.pointer a0)] h_1 fun v11 h_2 =>
 oB (some v11) fun x11 =>
 xIte (!x11) (fun J_2 =>
 Q (.int .i64 2) h_2)
 (fun J_2 =>
 xDraw h_2 fun hs_1 =>
 oI .i64 (hs_1.cell ((⟨b3, 0, none⟩ : Addr).add 0)) fun x14_0 =>
 oI .i64 (hs_1.cell ((⟨b3, 0, none⟩ : Addr).add 1)) fun x14_1 =>
 oI .i64 (hs_1.cell ((⟨b3, 0, none⟩ : Addr).add 2)) fun x14_2 =>
 oI .i64 (hs_1.cell ((⟨b3, 0, none⟩ : Addr).add 3)) fun x14_3 =>
 oI .i64 (hs_1.cell ((⟨b3, 0, none⟩ : Addr).add 4)) fun x14_4 =>
 oI .i64 (hs_1.cell ((⟨b3, 0, none⟩ : Addr).add 5)) fun x14_5 =>
 oI .i64 (hs_1.cell ((⟨b3, 0, none⟩ : Addr).add 6)) fun x14_6 =>
 oI .i64 (hs_1.cell ((⟨b3, 0, none⟩ : Addr).add 7)) fun x14_7 =>
 oI .i64 (hs_1.cell ((⟨b3, 0, none⟩ : Addr).add 8)) fun x14_8 =>
 oI .i64 (hs_1.cell ((⟨b3, 0, none⟩ : Addr).add 9)) fun x14_9 =>
 oI .i64 (hs_1.cell ((⟨b3, 0, none⟩ : Addr).add 10)) fun x14_10 =>
 oI .i64 (hs_1.cell ((⟨b3, 0, none⟩ : Addr).add 11)) fun x14_11 =>
 oI .i64 (hs_1.cell ((⟨b3, 0, none⟩ : Addr).add 12)) fun x14_12 =>
 Meets Try.prog 70 #[(.agg #[(.int .i64 x14_0), (.int .i64 x14_1), (.int .i64 x14_2), (.int .i64 x14_3), (.int .i64 x14_4), (.int .i64 x14_5), (.int .i64 x14_6), (.int .i64 x14_7), (.int .i64 x14_8), (.int .i64 x14_9), (.int .i64 x14_10), (.int .i64 x14_11), (.int .i64 x14_12)])] h_2 fun v15 h_3 =>
 oB (some v15) fun x15 =>
 PH.le hs_1 h_3 ∧
 xSc (!x15) false (fun J_3 =>
 oI .i64 (hs_1.cell ((⟨b3, 0, none⟩ : Addr).add 1)) fun x19 =>
 J_3 (decide ((x19 : Int) < 0)) h_3)
 (fun r21 h_4 =>
 xSc r21 false (fun J_4 =>
 oI .i64 (hs_1.cell ((⟨b3, 0, none⟩ : Addr).add 1)) fun x24 =>
 xNn a0 fun x26 =>
 oS (hs_1.cell (x26.add 2)) fun x28a x28l x28c =>
 J_4 (decide ((x24 : Int) ≥ ((x28l : Nat) : Int))) h_4)
 (fun r31 h_5 =>
 xIte r31 (fun J_5 =>
 Q (.int .i64 15) h_5)
 (fun J_5 =>
 J_5 h_5)
 (fun  (h_6 : PH) =>
 J_2 h_6)) h_4) h_3)
 (fun  (h_7 : PH) =>
 J_1 h_7))
 (fun  (h_8 : PH) =>
 xDraw h_8 fun hs_2 =>
 xNn a0 fun x33 =>
 oS (hs_2.cell (x33.add 2)) fun x35a x35l x35c =>
 oI .i64 (hs_2.cell ((⟨b3, 0, none⟩ : Addr).add 1)) fun x37 =>
 xIdx x35a x35l x37 11 fun x38 =>
 oI .i64 (h_8.cell ((⟨b3, 0, none⟩ : Addr).add 0)) fun x40 =>
 xBlk (fun J_6 =>
 xIte (x40 == 1) (fun J_7 =>
 xDraw h_8 fun hs_3 =>
 xNn (some x38) fun x44 =>
 oB (hs_3.cell (x44.add 4)) fun x46 =>
 xSc x46 false (fun J_8 =>
 oI .i64 (hs_3.cell ((⟨b3, 0, none⟩ : Addr).add 2)) fun x49 =>
 xNn (some x38) fun x51 =>
 oI .i64 (hs_3.cell (x51.add 3)) fun x53 =>
 J_8 (x49 != x53) h_8)
 (fun r55 h_9 =>
 xSc r55 false (fun J_9 =>
 oI .i64 (hs_3.cell (((⟨b3, 0, none⟩ : Addr).add 3).add 0)) fun x59_0 =>
 oI .i64 (hs_3.cell (((⟨b3, 0, none⟩ : Addr).add 3).add 1)) fun x59_1 =>
 oI .i64 (hs_3.cell (((⟨b3, 0, none⟩ : Addr).add 3).add 2)) fun x59_2 =>
 Meets Try.prog 71 #[(.pointer a0), (.agg #[(.int .i64 x59_0), (.int .i64 x59_1), (.int .i64 x59_2)])] h_9 fun v60 h_10 =>
 oB (some v60) fun x60 =>
 PH.le hs_3 h_10 ∧
 J_9 (!x60) h_10)
 (fun r62 h_11 =>
 xIte r62 (fun J_10 =>
 Q (.int .i64 15) h_11)
 (fun J_10 =>
 J_10 h_11)
 (fun  (h_12 : PH) =>
 xDraw h_12 fun hs_4 =>
 oI .i64 (hs_4.cell (((⟨b3, 0, none⟩ : Addr).add 3).add 0)) fun x65_0 =>
 oI .i64 (hs_4.cell (((⟨b3, 0, none⟩ : Addr).add 3).add 1)) fun x65_1 =>
 oI .i64 (hs_4.cell (((⟨b3, 0, none⟩ : Addr).add 3).add 2)) fun x65_2 =>
 xNn (some x38) fun x67 =>
 oI .i64 (hs_4.cell (x67.add 3)) fun x69 =>
 xNn (some x38) fun x72 =>
 xSt 11 h_12 x72 [(.int .i64 x65_0), (.int .i64 x65_1), (.int .i64 x65_2), (.int .i64 (IntKind.wrap .i64 (x69 + 1))), (.bool true), (.int .i64 0), (.int .i64 0), (.int .i64 0), (.int .i64 0), (.int .i64 0), (.int .i64 0)] fun h_13 =>
 J_7 h_13)) h_9) h_8)
 (fun J_7 =>
 xIte (x40 == 2) (fun J_11 =>
 xDraw h_8 fun hs_5 =>
 xNn (some x38) fun x76 =>
 oI .i64 (hs_5.cell (x76.add 0)) fun x77_0 =>
 oI .i64 (hs_5.cell (x76.add 1)) fun x77_1 =>
 oI .i64 (hs_5.cell (x76.add 2)) fun x77_2 =>
 oI .i64 (hs_5.cell (x76.add 3)) fun x77_3 =>
 oB (hs_5.cell (x76.add 4)) fun x77_4 =>
 oI .i64 (hs_5.cell (x76.add 5)) fun x77_5 =>
 oI .i64 (hs_5.cell (x76.add 6)) fun x77_6 =>
 oI .i64 (hs_5.cell (x76.add 7)) fun x77_7 =>
 oI .i64 (hs_5.cell (x76.add 8)) fun x77_8 =>
 oI .i64 (hs_5.cell (x76.add 9)) fun x77_9 =>
 oI .i64 (hs_5.cell (x76.add 10)) fun x77_10 =>
 oI .i64 (hs_5.cell (((⟨b3, 0, none⟩ : Addr).add 6).add 0)) fun x79_0 =>
 oI .i64 (hs_5.cell (((⟨b3, 0, none⟩ : Addr).add 6).add 1)) fun x79_1 =>
 oI .i64 (hs_5.cell (((⟨b3, 0, none⟩ : Addr).add 6).add 2)) fun x79_2 =>
 oI .i64 (hs_5.cell (((⟨b3, 0, none⟩ : Addr).add 6).add 3)) fun x79_3 =>
 oI .i64 (hs_5.cell (((⟨b3, 0, none⟩ : Addr).add 6).add 4)) fun x79_4 =>
 Meets Try.prog 72 #[(.agg #[(.int .i64 x77_0), (.int .i64 x77_1), (.int .i64 x77_2), (.int .i64 x77_3), (.bool x77_4), (.int .i64 x77_5), (.int .i64 x77_6), (.int .i64 x77_7), (.int .i64 x77_8), (.int .i64 x77_9), (.int .i64 x77_10)]), (.agg #[(.int .i64 x79_0), (.int .i64 x79_1), (.int .i64 x79_2), (.int .i64 x79_3), (.int .i64 x79_4)])] h_8 fun v80 h_14 =>
 oB (some v80) fun x80 =>
 PH.le hs_5 h_14 ∧
 xSc (!x80) false (fun J_12 =>
 xNn a0 fun x84 =>
 oP (hs_5.cell (x84.add 1)) fun x86 =>
 oI .i64 (hs_5.cell (((⟨b3, 0, none⟩ : Addr).add 6).add 0)) fun x88_0 =>
 oI .i64 (hs_5.cell (((⟨b3, 0, none⟩ : Addr).add 6).add 1)) fun x88_1 =>
 oI .i64 (hs_5.cell (((⟨b3, 0, none⟩ : Addr).add 6).add 2)) fun x88_2 =>
 oI .i64 (hs_5.cell (((⟨b3, 0, none⟩ : Addr).add 6).add 3)) fun x88_3 =>
 oI .i64 (hs_5.cell (((⟨b3, 0, none⟩ : Addr).add 6).add 4)) fun x88_4 =>
 Meets Try.prog 14 #[(.pointer x86), (.agg #[(.int .i64 x88_0), (.int .i64 x88_1), (.int .i64 x88_2), (.int .i64 x88_3), (.int .i64 x88_4)])] h_14 fun v89 h_15 =>
 oI .i64 (some v89) fun x89 =>
 PH.le hs_5 h_15 ∧
 J_12 (x89 != 0) h_15)
 (fun r91 h_16 =>
 xIte r91 (fun J_13 =>
 Q (.int .i64 15) h_16)
 (fun J_13 =>
 J_13 h_16)
 (fun  (h_17 : PH) =>
 xNn (some x38) fun x93 =>
 oI .i64 (h_17.cell (x93.add 5)) fun x95 =>
 xNn (some x38) fun x97 =>
 xSt 1 h_17 (x97.add 5) [(.int .i64 (IntKind.wrap .i64 (x95 + 1)))] fun h_18 =>
 oI .i64 (h_18.cell (((⟨b3, 0, none⟩ : Addr).add 6).add 0)) fun x101_0 =>
 oI .i64 (h_18.cell (((⟨b3, 0, none⟩ : Addr).add 6).add 1)) fun x101_1 =>
 oI .i64 (h_18.cell (((⟨b3, 0, none⟩ : Addr).add 6).add 2)) fun x101_2 =>
 oI .i64 (h_18.cell (((⟨b3, 0, none⟩ : Addr).add 6).add 3)) fun x101_3 =>
 oI .i64 (h_18.cell (((⟨b3, 0, none⟩ : Addr).add 6).add 4)) fun x101_4 =>
 xNn (some x38) fun x102 =>
 xSt 5 h_18 (x102.add 6) [(.int .i64 x101_0), (.int .i64 x101_1), (.int .i64 x101_2), (.int .i64 x101_3), (.int .i64 x101_4)] fun h_19 =>
 J_11 h_19)) h_14)
 (fun J_11 =>
 xIte (x40 == 3) (fun J_14 =>
 xNn (some x38) fun x108 =>
 oI .i64 (h_8.cell (x108.add 0)) fun x109_0 =>
 oI .i64 (h_8.cell (x108.add 1)) fun x109_1 =>
 oI .i64 (h_8.cell (x108.add 2)) fun x109_2 =>
 oI .i64 (h_8.cell (x108.add 3)) fun x109_3 =>
 oB (h_8.cell (x108.add 4)) fun x109_4 =>
 oI .i64 (h_8.cell (x108.add 5)) fun x109_5 =>
 oI .i64 (h_8.cell (x108.add 6)) fun x109_6 =>
 oI .i64 (h_8.cell (x108.add 7)) fun x109_7 =>
 oI .i64 (h_8.cell (x108.add 8)) fun x109_8 =>
 oI .i64 (h_8.cell (x108.add 9)) fun x109_9 =>
 oI .i64 (h_8.cell (x108.add 10)) fun x109_10 =>
 Meets Try.prog 73 #[(.agg #[(.int .i64 x109_0), (.int .i64 x109_1), (.int .i64 x109_2), (.int .i64 x109_3), (.bool x109_4), (.int .i64 x109_5), (.int .i64 x109_6), (.int .i64 x109_7), (.int .i64 x109_8), (.int .i64 x109_9), (.int .i64 x109_10)])] h_8 fun v110 h_20 =>
 oTup v110 3 fun x110cs =>
 oIx x110cs[0]? fun x110w =>
 oI .i64 (some x110w) fun x110_0 =>
 oIx x110cs[1]? fun x110w_1 =>
 oI .i64 (some x110w_1) fun x110_1 =>
 oIx x110cs[2]? fun x110w_2 =>
 oB (some x110w_2) fun x110_2 =>
 oI .i64 (some (.int .i64 x110_0)) fun x111 =>
 oI .i64 (some (.int .i64 x110_1)) fun x112 =>
 oB (some (.bool x110_2)) fun x113 =>
 xDraw h_20 fun hs_6 =>
 xSc (!x113) false (fun J_15 =>
 oI .i64 (hs_6.cell ((⟨b3, 0, none⟩ : Addr).add 2)) fun x118 =>
 xNn (some x38) fun x120 =>
 oI .i64 (hs_6.cell (x120.add 3)) fun x122 =>
 J_15 (x118 != (IntKind.wrap .i64 (x122 - 1))) h_20)
 (fun r125 h_21 =>
 xSc r125 false (fun J_16 =>
 oI .i64 (hs_6.cell ((⟨b3, 0, none⟩ : Addr).add 11)) fun x128 =>
 J_16 (x128 != x111) h_21)
 (fun r131 h_22 =>
 xSc r131 false (fun J_17 =>
 oI .i64 (hs_6.cell ((⟨b3, 0, none⟩ : Addr).add 12)) fun x134 =>
 J_17 (x134 != x112) h_22)
 (fun r137 h_23 =>
 xIte r137 (fun J_18 =>
 Q (.int .i64 15) h_23)
 (fun J_18 =>
 J_18 h_23)
 (fun  (h_24 : PH) =>
 xNn (some x38) fun x140 =>
 oI .i64 (h_24.cell (x140.add 3)) fun x142 =>
 xNn (some x38) fun x144 =>
 xSt 11 h_24 x144 [(.int .i64 0), (.int .i64 0), (.int .i64 0), (.int .i64 x142), (.bool false), (.int .i64 0), (.int .i64 0), (.int .i64 0), (.int .i64 0), (.int .i64 0), (.int .i64 0)] fun h_25 =>
 J_14 h_25)) h_22) h_21) h_20)
 (fun J_14 =>
 J_14 h_8)
 (fun  (h_26 : PH) =>
 J_11 h_26))
 (fun  (h_27 : PH) =>
 J_7 h_27))
 (fun  (h_28 : PH) =>
 J_6 h_28))
 (fun  (h_29 : PH) =>
 xDraw h_29 fun hs_7 =>
 xNn a0 fun x147 =>
 oS (hs_7.cell (x147.add 3)) fun x149a x149l x149c =>
 oI .i64 (hs_7.cell ((⟨b3, 0, none⟩ : Addr).add 0)) fun x150_0 =>
 oI .i64 (hs_7.cell ((⟨b3, 0, none⟩ : Addr).add 1)) fun x150_1 =>
 oI .i64 (hs_7.cell ((⟨b3, 0, none⟩ : Addr).add 2)) fun x150_2 =>
 oI .i64 (hs_7.cell ((⟨b3, 0, none⟩ : Addr).add 3)) fun x150_3 =>
 oI .i64 (hs_7.cell ((⟨b3, 0, none⟩ : Addr).add 4)) fun x150_4 =>
 oI .i64 (hs_7.cell ((⟨b3, 0, none⟩ : Addr).add 5)) fun x150_5 =>
 oI .i64 (hs_7.cell ((⟨b3, 0, none⟩ : Addr).add 6)) fun x150_6 =>
 oI .i64 (hs_7.cell ((⟨b3, 0, none⟩ : Addr).add 7)) fun x150_7 =>
 oI .i64 (hs_7.cell ((⟨b3, 0, none⟩ : Addr).add 8)) fun x150_8 =>
 oI .i64 (hs_7.cell ((⟨b3, 0, none⟩ : Addr).add 9)) fun x150_9 =>
 oI .i64 (hs_7.cell ((⟨b3, 0, none⟩ : Addr).add 10)) fun x150_10 =>
 oI .i64 (hs_7.cell ((⟨b3, 0, none⟩ : Addr).add 11)) fun x150_11 =>
 oI .i64 (hs_7.cell ((⟨b3, 0, none⟩ : Addr).add 12)) fun x150_12 =>
 xNew h_29 (.cells #[(.int .i64 x150_0), (.int .i64 x150_1), (.int .i64 x150_2), (.int .i64 x150_3), (.int .i64 x150_4), (.int .i64 x150_5), (.int .i64 x150_6), (.int .i64 x150_7), (.int .i64 x150_8), (.int .i64 x150_9), (.int .i64 x150_10), (.int .i64 x150_11), (.int .i64 x150_12)] 90 (0, 0)) fun b151 h_30 =>
 PH.le hs_7 h_30 ∧
 xApp h_30 90 13 104 x149a x149l x149c (.slice (some (⟨b151, 0, none⟩ : Addr)) 1 1) fun x152a x152l x152c h_31 =>
 PH.le hs_7 h_31 ∧
 xNn a0 fun x153 =>
 xSt 1 h_31 (x153.add 3) [(.slice x152a x152l x152c)] fun h_32 =>
 Q (.int .i64 0) h_32))
theorem P_ghost_Log_Add_eq (a0 : Option Addr) (a1_0 : Int) (a1_1 : Int) (a1_2 : Int) (a1_3 : Int) (a1_4 : Int) (a1_5 : Int) (a1_6 : Int) (a1_7 : Int) (a1_8 : Int) (a1_9 : Int) (a1_10 : Int) (a1_11 : Int) (a1_12 : Int) (h : PH) (Q : Value → PH → Prop) : dFn Try.prog Try.f40 A_ghost_Log_Add #[(.pointer a0), (.agg #[(.int .i64 a1_0), (.int .i64 a1_1), (.int .i64 a1_2), (.int .i64 a1_3), (.int .i64 a1_4), (.int .i64 a1_5), (.int .i64 a1_6), (.int .i64 a1_7), (.int .i64 a1_8), (.int .i64 a1_9), (.int .i64 a1_10), (.int .i64 a1_11), (.int .i64 a1_12)])] h Q = P_ghost_Log_Add a0 a1_0 a1_1 a1_2 a1_3 a1_4 a1_5 a1_6 a1_7 a1_8 a1_9 a1_10 a1_11 a1_12 h Q := by kernel_rfl
theorem P_ghost_Log_Add_of {a0 : Option Addr} {a1_0 : Int} {a1_1 : Int} {a1_2 : Int} {a1_3 : Int} {a1_4 : Int} {a1_5 : Int} {a1_6 : Int} {a1_7 : Int} {a1_8 : Int} {a1_9 : Int} {a1_10 : Int} {a1_11 : Int} {a1_12 : Int} {h : PH} {Q : Value → PH → Prop} (x : P_ghost_Log_Add a0 a1_0 a1_1 a1_2 a1_3 a1_4 a1_5 a1_6 a1_7 a1_8 a1_9 a1_10 a1_11 a1_12 h Q) : Meets Try.prog 40 #[(.pointer a0), (.agg #[(.int .i64 a1_0), (.int .i64 a1_1), (.int .i64 a1_2), (.int .i64 a1_3), (.int .i64 a1_4), (.int .i64 a1_5), (.int .i64 a1_6), (.int .i64 a1_7), (.int .i64 a1_8), (.int .i64 a1_9), (.int .i64 a1_10), (.int .i64 a1_11), (.int .i64 a1_12)])] h Q :=
  spec_of Try.func40 mix (by kernel_rfl) ((P_ghost_Log_Add_eq a0 a1_0 a1_1 a1_2 a1_3 a1_4 a1_5 a1_6 a1_7 a1_8 a1_9 a1_10 a1_11 a1_12 h Q).symm ▸ x)
/-- (*futtock/ghost.Log).All -/
def A_ghost_Log_All : Ann := .seq (.leaf) (.seq (.seq (.leaf) (.cond [] (.seq (.leaf) (.leaf)) (.leaf))) (.seq (.leaf) (.leaf)))
def P_ghost_Log_All (a0 : Option Addr) (h : PH) (Q : Value → PH → Prop) : Prop :=
 Meets Try.prog 69 #[(.pointer a0)] h fun v4 h_1 =>
 oB (some v4) fun x4 =>
 xIte (!x4) (fun J_1 =>
 Q (.slice none 0 0) h_1)
 (fun J_1 =>
 J_1 h_1)
 (fun  (h_2 : PH) =>
 xNn a0 fun x7 =>
 oS (h_2.cell (x7.add 3)) fun x9a x9l x9c =>
 Meets Try.prog 74 #[(.slice x9a x9l x9c)] h_2 fun v10 h_3 =>
 oS (some v10) fun x10a x10l x10c =>
 Q (.slice x10a x10l x10c) h_3)
theorem P_ghost_Log_All_eq (a0 : Option Addr) (h : PH) (Q : Value → PH → Prop) : dFn Try.prog Try.f41 A_ghost_Log_All #[(.pointer a0)] h Q = P_ghost_Log_All a0 h Q := by kernel_rfl
theorem P_ghost_Log_All_of {a0 : Option Addr} {h : PH} {Q : Value → PH → Prop} (x : P_ghost_Log_All a0 h Q) : Meets Try.prog 41 #[(.pointer a0)] h Q :=
  spec_of Try.func41 mix (by kernel_rfl) ((P_ghost_Log_All_eq a0 h Q).symm ▸ x)
/-- (*futtock/ghost.Log).Open -/
def A_ghost_Log_Open : Ann := .seq (.leaf) (.seq (.seq (.leaf) (.cond [] (.seq (.leaf) (.leaf)) (.leaf))) (.seq (.draw [(0, .flt), (1, .flt), (2, .flt), (3, .flt), (4, .flt), (5, .flt), (6, .flt), (7, .flt), (8, .flt), (9, .flt), (10, .flt), (11, .flt), (12, .flt), (13, .flt), (14, .flt), (15, .flt), (16, .eff), (17, .flt)]) (.leaf)))
def P_ghost_Log_Open (a0 : Option Addr) (a1 : Int) (h : PH) (Q : Value → PH → Prop) : Prop :=
 xNew h (.cells #[(.int .i64 0), (.int .i64 0), (.int .i64 0)] 86 (0, 0)) fun b4 h_1 =>
 Meets Try.prog 69 #[(.pointer a0)] h_1 fun v7 h_2 =>
 oB (some v7) fun x7 =>
 xSc (!x7) false (fun J_1 =>
 J_1 (decide ((a1 : Int) < 0)) h_2)
 (fun r12 h_3 =>
 xSc r12 false (fun J_2 =>
 xNn a0 fun x16 =>
 oS (h_3.cell (x16.add 2)) fun x18a x18l x18c =>
 J_2 (decide ((a1 : Int) ≥ ((x18l : Nat) : Int))) h_3)
 (fun r21 h_4 =>
 xIte r21 (fun J_3 =>
 xSt 3 h_4 (⟨b4, 0, none⟩ : Addr) [(.int .i64 0), (.int .i64 0), (.int .i64 0)] fun h_5 =>
 oI .i64 (h_5.cell ((⟨b4, 0, none⟩ : Addr).add 0)) fun y4_0 =>
 oI .i64 (h_5.cell ((⟨b4, 0, none⟩ : Addr).add 1)) fun y4_1 =>
 oI .i64 (h_5.cell ((⟨b4, 0, none⟩ : Addr).add 2)) fun y4_2 =>
 Q (.tuple #[(.agg #[(.int .i64 y4_0), (.int .i64 y4_1), (.int .i64 y4_2)]), (.bool false)]) h_5)
 (fun J_3 =>
 J_3 h_4)
 (fun  (h_6 : PH) =>
 xDraw h_6 fun hs_1 =>
 xNn a0 fun x24 =>
 oS (hs_1.cell (x24.add 2)) fun x26a x26l x26c =>
 xIdx x26a x26l a1 11 fun x28 =>
 oI .i64 (hs_1.cell ((x28.add 0).add 0)) fun x30_0 =>
 oI .i64 (hs_1.cell ((x28.add 0).add 1)) fun x30_1 =>
 oI .i64 (hs_1.cell ((x28.add 0).add 2)) fun x30_2 =>
 xNn a0 fun x32 =>
 oS (hs_1.cell (x32.add 2)) fun x34a x34l x34c =>
 xIdx x34a x34l a1 11 fun x36 =>
 oB (hs_1.cell (x36.add 4)) fun x38 =>
 xSt 3 h_6 (⟨b4, 0, none⟩ : Addr) [(.int .i64 x30_0), (.int .i64 x30_1), (.int .i64 x30_2)] fun h_7 =>
 PH.le hs_1 h_7 ∧
 oI .i64 (h_7.cell ((⟨b4, 0, none⟩ : Addr).add 0)) fun y4_0_1 =>
 oI .i64 (h_7.cell ((⟨b4, 0, none⟩ : Addr).add 1)) fun y4_1_1 =>
 oI .i64 (h_7.cell ((⟨b4, 0, none⟩ : Addr).add 2)) fun y4_2_1 =>
 Q (.tuple #[(.agg #[(.int .i64 y4_0_1), (.int .i64 y4_1_1), (.int .i64 y4_2_1)]), (.bool x38)]) h_7)) h_3) h_2
theorem P_ghost_Log_Open_eq (a0 : Option Addr) (a1 : Int) (h : PH) (Q : Value → PH → Prop) : dFn Try.prog Try.f42 A_ghost_Log_Open #[(.pointer a0), (.int .i64 a1)] h Q = P_ghost_Log_Open a0 a1 h Q := by kernel_rfl
theorem P_ghost_Log_Open_of {a0 : Option Addr} {a1 : Int} {h : PH} {Q : Value → PH → Prop} (x : P_ghost_Log_Open a0 a1 h Q) : Meets Try.prog 42 #[(.pointer a0), (.int .i64 a1)] h Q :=
  spec_of Try.func42 mix (by kernel_rfl) ((P_ghost_Log_Open_eq a0 a1 h Q).symm ▸ x)
/-- (*futtock/ghost.Log).Len -/
def A_ghost_Log_Len : Ann := .seq (.leaf) (.seq (.seq (.leaf) (.cond [] (.seq (.leaf) (.leaf)) (.leaf))) (.seq (.leaf) (.leaf)))
def P_ghost_Log_Len (a0 : Option Addr) (h : PH) (Q : Value → PH → Prop) : Prop :=
 Meets Try.prog 69 #[(.pointer a0)] h fun v4 h_1 =>
 oB (some v4) fun x4 =>
 xIte (!x4) (fun J_1 =>
 Q (.int .i64 0) h_1)
 (fun J_1 =>
 J_1 h_1)
 (fun  (h_2 : PH) =>
 xNn a0 fun x7 =>
 oS (h_2.cell (x7.add 3)) fun x9a x9l x9c =>
 Q (.int .i64 ((x9l : Nat) : Int)) h_2)
theorem P_ghost_Log_Len_eq (a0 : Option Addr) (h : PH) (Q : Value → PH → Prop) : dFn Try.prog Try.f43 A_ghost_Log_Len #[(.pointer a0)] h Q = P_ghost_Log_Len a0 h Q := by kernel_rfl
theorem P_ghost_Log_Len_of {a0 : Option Addr} {h : PH} {Q : Value → PH → Prop} (x : P_ghost_Log_Len a0 h Q) : Meets Try.prog 43 #[(.pointer a0)] h Q :=
  spec_of Try.func43 mix (by kernel_rfl) ((P_ghost_Log_Len_eq a0 h Q).symm ▸ x)
/-- (*futtock/ghost.Log).Model -/
def A_ghost_Log_Model : Ann := .seq (.leaf) (.seq (.seq (.leaf) (.cond [] (.seq (.leaf) (.leaf)) (.leaf))) (.seq (.leaf) (.leaf)))
def P_ghost_Log_Model (a0 : Option Addr) (h : PH) (Q : Value → PH → Prop) : Prop :=
 Meets Try.prog 69 #[(.pointer a0)] h fun v4 h_1 =>
 oB (some v4) fun x4 =>
 xIte (!x4) (fun J_1 =>
 Q (.pointer none) h_1)
 (fun J_1 =>
 J_1 h_1)
 (fun  (h_2 : PH) =>
 xNn a0 fun x7 =>
 oP (h_2.cell (x7.add 1)) fun x9 =>
 Meets Try.prog 13 #[(.pointer x9)] h_2 fun v10 h_3 =>
 oP (some v10) fun x10 =>
 Q (.pointer x10) h_3)
theorem P_ghost_Log_Model_eq (a0 : Option Addr) (h : PH) (Q : Value → PH → Prop) : dFn Try.prog Try.f44 A_ghost_Log_Model #[(.pointer a0)] h Q = P_ghost_Log_Model a0 h Q := by kernel_rfl
theorem P_ghost_Log_Model_of {a0 : Option Addr} {h : PH} {Q : Value → PH → Prop} (x : P_ghost_Log_Model a0 h Q) : Meets Try.prog 44 #[(.pointer a0)] h Q :=
  spec_of Try.func44 mix (by kernel_rfl) ((P_ghost_Log_Model_eq a0 h Q).symm ▸ x)
/-- (*futtock/ghost.Log).ok -/
def A_ghost_Log_ok : Ann := .seq (.leaf) (.seq (.leaf) (.leaf))
def P_ghost_Log_ok (a0 : Option Addr) (h : PH) (Q : Value → PH → Prop) : Prop :=
 xSc (!(Option.isNone a0)) true (fun J_1 =>
 xNn a0 fun x7 =>
 oP (h.cell (x7.add 1)) fun x9 =>
 J_1 (!(Option.isNone x9)) h)
 (fun r11 h_1 =>
 Q (.bool r11) h_1) h
theorem P_ghost_Log_ok_eq (a0 : Option Addr) (h : PH) (Q : Value → PH → Prop) : dFn Try.prog Try.f69 A_ghost_Log_ok #[(.pointer a0)] h Q = P_ghost_Log_ok a0 h Q := by kernel_rfl
theorem P_ghost_Log_ok_of {a0 : Option Addr} {h : PH} {Q : Value → PH → Prop} (x : P_ghost_Log_ok a0 h Q) : Meets Try.prog 69 #[(.pointer a0)] h Q :=
  spec_of Try.func69 mix (by kernel_rfl) ((P_ghost_Log_ok_eq a0 h Q).symm ▸ x)
/-- futtock/ghost.isBare -/
def A_ghost_isBare : Ann := .seq (.leaf) (.seq (.leaf) (.seq (.seq (.leaf) (.block [] (.seq (.leaf) (.cond [] (.draw [(0, .flt), (1, .flt), (2, .flt), (3, .flt), (4, .flt), (5, .eff), (6, .flt), (7, .brk)]) (.seq (.leaf) (.cond [] (.draw [(0, .flt), (1, .flt), (2, .flt), (3, .flt), (4, .flt), (5, .flt), (6, .eff), (7, .flt), (8, .brk)]) (.seq (.leaf) (.cond [] (.draw [(0, .flt), (1, .flt), (2, .flt), (3, .flt), (4, .flt), (5, .flt), (6, .flt), (7, .eff), (8, .flt), (9, .eff), (10, .flt), (11, .brk)]) (.seq (.leaf) (.leaf)))))))))) (.seq (.leaf) (.leaf))))
def P_ghost_isBare (a0_0 : Int) (a0_1 : Int) (a0_2 : Int) (a0_3 : Int) (a0_4 : Int) (a0_5 : Int) (a0_6 : Int) (a0_7 : Int) (a0_8 : Int) (a0_9 : Int) (a0_10 : Int) (a0_11 : Int) (a0_12 : Int) (h : PH) (Q : Value → PH → Prop) : Prop :=
 xNew h (.cells #[(.int .i64 a0_0), (.int .i64 a0_1), (.int .i64 a0_2), (.int .i64 a0_3), (.int .i64 a0_4), (.int .i64 a0_5), (.int .i64 a0_6), (.int .i64 a0_7), (.int .i64 a0_8), (.int .i64 a0_9), (.int .i64 a0_10), (.int .i64 a0_11), (.int .i64 a0_12)] 90 (0, 0)) fun b1 h_1 =>
 oI .i64 (h_1.cell ((⟨b1, 0, none⟩ : Addr).add 0)) fun x5 =>
 oI .i64 (h_1.cell ((⟨b1, 0, none⟩ : Addr).add 1)) fun x7 =>
 xNew h_1 (.cells #[(.int .i64 0), (.int .i64 0), (.int .i64 0), (.int .i64 0), (.int .i64 0), (.int .i64 0), (.int .i64 0), (.int .i64 0), (.int .i64 0), (.int .i64 0), (.int .i64 0), (.int .i64 0), (.int .i64 0)] 90 (0, 0)) fun b3 h_2 =>
 xSt 13 h_2 (⟨b3, 0, none⟩ : Addr) [(.int .i64 x5), (.int .i64 x7), (.int .i64 0), (.int .i64 0), (.int .i64 0), (.int .i64 0), (.int .i64 0), (.int .i64 0), (.int .i64 0), (.int .i64 0), (.int .i64 0), (.int .i64 0), (.int .i64 0)] fun h_3 =>
 oI .i64 (h_3.cell ((⟨b1, 0, none⟩ : Addr).add 0)) fun x10 =>
 xBlk (fun J_1 =>
 xIte (x10 == 1) (fun J_2 =>
 xDraw h_3 fun hs_1 =>
 oI .i64 (hs_1.cell ((⟨b1, 0, none⟩ : Addr).add 2)) fun x14 =>
 oI .i64 (hs_1.cell (((⟨b1, 0, none⟩ : Addr).add 3).add 0)) fun x16_0 =>
 oI .i64 (hs_1.cell (((⟨b1, 0, none⟩ : Addr).add 3).add 1)) fun x16_1 =>
 oI .i64 (hs_1.cell (((⟨b1, 0, none⟩ : Addr).add 3).add 2)) fun x16_2 =>
 xSt 1 h_3 ((⟨b3, 0, none⟩ : Addr).add 2) [(.int .i64 x14)] fun h_4 =>
 PH.le hs_1 h_4 ∧
 xSt 3 h_4 ((⟨b3, 0, none⟩ : Addr).add 3) [(.int .i64 x16_0), (.int .i64 x16_1), (.int .i64 x16_2)] fun h_5 =>
 J_2 h_5)
 (fun J_2 =>
 xIte (x10 == 2) (fun J_3 =>
 xDraw h_3 fun hs_2 =>
 oI .i64 (hs_2.cell (((⟨b1, 0, none⟩ : Addr).add 6).add 1)) fun x23 =>
 oI .i64 (hs_2.cell (((⟨b1, 0, none⟩ : Addr).add 6).add 0)) fun x25_0 =>
 oI .i64 (hs_2.cell (((⟨b1, 0, none⟩ : Addr).add 6).add 1)) fun x25_1 =>
 oI .i64 (hs_2.cell (((⟨b1, 0, none⟩ : Addr).add 6).add 2)) fun x25_2 =>
 oI .i64 (hs_2.cell (((⟨b1, 0, none⟩ : Addr).add 6).add 3)) fun x25_3 =>
 oI .i64 (hs_2.cell (((⟨b1, 0, none⟩ : Addr).add 6).add 4)) fun x25_4 =>
 xSt 1 h_3 ((⟨b3, 0, none⟩ : Addr).add 1) [(.int .i64 x23)] fun h_6 =>
 PH.le hs_2 h_6 ∧
 xSt 5 h_6 ((⟨b3, 0, none⟩ : Addr).add 6) [(.int .i64 x25_0), (.int .i64 x25_1), (.int .i64 x25_2), (.int .i64 x25_3), (.int .i64 x25_4)] fun h_7 =>
 J_3 h_7)
 (fun J_3 =>
 xIte (x10 == 3) (fun J_4 =>
 xDraw h_3 fun hs_3 =>
 oI .i64 (hs_3.cell ((⟨b1, 0, none⟩ : Addr).add 2)) fun x31 =>
 oI .i64 (hs_3.cell ((⟨b1, 0, none⟩ : Addr).add 11)) fun x33 =>
 oI .i64 (hs_3.cell ((⟨b1, 0, none⟩ : Addr).add 12)) fun x35 =>
 xSt 1 h_3 ((⟨b3, 0, none⟩ : Addr).add 2) [(.int .i64 x31)] fun h_8 =>
 PH.le hs_3 h_8 ∧
 xSt 1 h_8 ((⟨b3, 0, none⟩ : Addr).add 11) [(.int .i64 x33)] fun h_9 =>
 PH.le hs_3 h_9 ∧
 xSt 1 h_9 ((⟨b3, 0, none⟩ : Addr).add 12) [(.int .i64 x35)] fun h_10 =>
 J_4 h_10)
 (fun J_4 =>
 Q (.bool false) h_3)
 (fun  (h_11 : PH) =>
 J_3 h_11))
 (fun  (h_12 : PH) =>
 J_2 h_12))
 (fun  (h_13 : PH) =>
 J_1 h_13))
 (fun  (h_14 : PH) =>
 oI .i64 (h_14.cell ((⟨b3, 0, none⟩ : Addr).add 0)) fun x39_0 =>
 oI .i64 (h_14.cell ((⟨b3, 0, none⟩ : Addr).add 1)) fun x39_1 =>
 oI .i64 (h_14.cell ((⟨b3, 0, none⟩ : Addr).add 2)) fun x39_2 =>
 oI .i64 (h_14.cell ((⟨b3, 0, none⟩ : Addr).add 3)) fun x39_3 =>
 oI .i64 (h_14.cell ((⟨b3, 0, none⟩ : Addr).add 4)) fun x39_4 =>
 oI .i64 (h_14.cell ((⟨b3, 0, none⟩ : Addr).add 5)) fun x39_5 =>
 oI .i64 (h_14.cell ((⟨b3, 0, none⟩ : Addr).add 6)) fun x39_6 =>
 oI .i64 (h_14.cell ((⟨b3, 0, none⟩ : Addr).add 7)) fun x39_7 =>
 oI .i64 (h_14.cell ((⟨b3, 0, none⟩ : Addr).add 8)) fun x39_8 =>
 oI .i64 (h_14.cell ((⟨b3, 0, none⟩ : Addr).add 9)) fun x39_9 =>
 oI .i64 (h_14.cell ((⟨b3, 0, none⟩ : Addr).add 10)) fun x39_10 =>
 oI .i64 (h_14.cell ((⟨b3, 0, none⟩ : Addr).add 11)) fun x39_11 =>
 oI .i64 (h_14.cell ((⟨b3, 0, none⟩ : Addr).add 12)) fun x39_12 =>
 oI .i64 (h_14.cell ((⟨b1, 0, none⟩ : Addr).add 0)) fun x40_0 =>
 oI .i64 (h_14.cell ((⟨b1, 0, none⟩ : Addr).add 1)) fun x40_1 =>
 oI .i64 (h_14.cell ((⟨b1, 0, none⟩ : Addr).add 2)) fun x40_2 =>
 oI .i64 (h_14.cell ((⟨b1, 0, none⟩ : Addr).add 3)) fun x40_3 =>
 oI .i64 (h_14.cell ((⟨b1, 0, none⟩ : Addr).add 4)) fun x40_4 =>
 oI .i64 (h_14.cell ((⟨b1, 0, none⟩ : Addr).add 5)) fun x40_5 =>
 oI .i64 (h_14.cell ((⟨b1, 0, none⟩ : Addr).add 6)) fun x40_6 =>
 oI .i64 (h_14.cell ((⟨b1, 0, none⟩ : Addr).add 7)) fun x40_7 =>
 oI .i64 (h_14.cell ((⟨b1, 0, none⟩ : Addr).add 8)) fun x40_8 =>
 oI .i64 (h_14.cell ((⟨b1, 0, none⟩ : Addr).add 9)) fun x40_9 =>
 oI .i64 (h_14.cell ((⟨b1, 0, none⟩ : Addr).add 10)) fun x40_10 =>
 oI .i64 (h_14.cell ((⟨b1, 0, none⟩ : Addr).add 11)) fun x40_11 =>
 oI .i64 (h_14.cell ((⟨b1, 0, none⟩ : Addr).add 12)) fun x40_12 =>
 xEq Try.prog 90 (.agg #[(.int .i64 x39_0), (.int .i64 x39_1), (.int .i64 x39_2), (.int .i64 x39_3), (.int .i64 x39_4), (.int .i64 x39_5), (.int .i64 x39_6), (.int .i64 x39_7), (.int .i64 x39_8), (.int .i64 x39_9), (.int .i64 x39_10), (.int .i64 x39_11), (.int .i64 x39_12)]) (.agg #[(.int .i64 x40_0), (.int .i64 x40_1), (.int .i64 x40_2), (.int .i64 x40_3), (.int .i64 x40_4), (.int .i64 x40_5), (.int .i64 x40_6), (.int .i64 x40_7), (.int .i64 x40_8), (.int .i64 x40_9), (.int .i64 x40_10), (.int .i64 x40_11), (.int .i64 x40_12)]) fun x41 =>
 Q (.bool x41) h_14)
theorem P_ghost_isBare_eq (a0_0 : Int) (a0_1 : Int) (a0_2 : Int) (a0_3 : Int) (a0_4 : Int) (a0_5 : Int) (a0_6 : Int) (a0_7 : Int) (a0_8 : Int) (a0_9 : Int) (a0_10 : Int) (a0_11 : Int) (a0_12 : Int) (h : PH) (Q : Value → PH → Prop) : dFn Try.prog Try.f70 A_ghost_isBare #[(.agg #[(.int .i64 a0_0), (.int .i64 a0_1), (.int .i64 a0_2), (.int .i64 a0_3), (.int .i64 a0_4), (.int .i64 a0_5), (.int .i64 a0_6), (.int .i64 a0_7), (.int .i64 a0_8), (.int .i64 a0_9), (.int .i64 a0_10), (.int .i64 a0_11), (.int .i64 a0_12)])] h Q = P_ghost_isBare a0_0 a0_1 a0_2 a0_3 a0_4 a0_5 a0_6 a0_7 a0_8 a0_9 a0_10 a0_11 a0_12 h Q := by kernel_rfl
theorem P_ghost_isBare_of {a0_0 : Int} {a0_1 : Int} {a0_2 : Int} {a0_3 : Int} {a0_4 : Int} {a0_5 : Int} {a0_6 : Int} {a0_7 : Int} {a0_8 : Int} {a0_9 : Int} {a0_10 : Int} {a0_11 : Int} {a0_12 : Int} {h : PH} {Q : Value → PH → Prop} (x : P_ghost_isBare a0_0 a0_1 a0_2 a0_3 a0_4 a0_5 a0_6 a0_7 a0_8 a0_9 a0_10 a0_11 a0_12 h Q) : Meets Try.prog 70 #[(.agg #[(.int .i64 a0_0), (.int .i64 a0_1), (.int .i64 a0_2), (.int .i64 a0_3), (.int .i64 a0_4), (.int .i64 a0_5), (.int .i64 a0_6), (.int .i64 a0_7), (.int .i64 a0_8), (.int .i64 a0_9), (.int .i64 a0_10), (.int .i64 a0_11), (.int .i64 a0_12)])] h Q :=
  spec_of Try.func70 mix (by kernel_rfl) ((P_ghost_isBare_eq a0_0 a0_1 a0_2 a0_3 a0_4 a0_5 a0_6 a0_7 a0_8 a0_9 a0_10 a0_11 a0_12 h Q).symm ▸ x)
/-- (*futtock/ghost.Log).may -/
def A_ghost_Log_may : Ann := .seq (.leaf) (.seq (.seq (.draw [(0, .flt), (1, .flt), (2, .eff), (3, .flt), (4, .flt), (5, .flt), (6, .flt), (7, .flt), (8, .flt), (9, .flt), (10, .flt), (11, .flt), (12, .flt), (13, .flt), (14, .flt), (15, .flt), (16, .flt), (17, .flt), (18, .flt), (19, .flt), (20, .flt), (21, .flt), (22, .flt)]) (.cond [] (.seq (.leaf) (.leaf)) (.leaf))) (.seq (.seq (.leaf) (.block [] (.seq (.leaf) (.cond [] (.seq (.draw [(0, .flt), (1, .flt), (2, .flt), (3, .flt), (4, .flt), (5, .flt), (6, .flt), (7, .flt), (8, .flt)]) (.leaf)) (.seq (.leaf) (.cond [] (.seq (.leaf) (.leaf)) (.leaf))))))) (.seq (.leaf) (.leaf))))
def P_ghost_Log_may (a0 : Option Addr) (a1_0 : Int) (a1_1 : Int) (a1_2 : Int) (h : PH) (Q : Value → PH → Prop) : Prop :=
 xNew h (.cells #[(.int .i64 a1_0), (.int .i64 a1_1), (.int .i64 a1_2)] 86 (0, 0)) fun b3 h_1 =>
 xDraw h_1 fun hs_1 =>
 oI .i64 (hs_1.cell ((⟨b3, 0, none⟩ : Addr).add 0)) fun x6 =>
 Meets Try.prog 99 #[(.int .i64 x6)] h_1 fun v7 h_2 =>
 oI .i64 (some v7) fun x7 =>
 PH.le hs_1 h_2 ∧
 xSc (x7 == 0) false (fun J_1 =>
 oI .i64 (hs_1.cell ((⟨b3, 0, none⟩ : Addr).add 1)) fun x11 =>
 J_1 (decide ((x11 : Int) < 0)) h_2)
 (fun r13 h_3 =>
 xSc r13 false (fun J_2 =>
 oI .i64 (hs_1.cell ((⟨b3, 0, none⟩ : Addr).add 1)) fun x16 =>
 xNn a0 fun x18 =>
 oI .i64 (hs_1.cell (x18.add 0)) fun x20 =>
 J_2 (decide ((x16 : Int) ≥ x20)) h_3)
 (fun r22 h_4 =>
 xSc r22 false (fun J_3 =>
 oI .i64 (hs_1.cell ((⟨b3, 0, none⟩ : Addr).add 2)) fun x25 =>
 J_3 (decide ((x25 : Int) < 0)) h_4)
 (fun r27 h_5 =>
 xIte r27 (fun J_4 =>
 Q (.bool false) h_5)
 (fun J_4 =>
 J_4 h_5)
 (fun  (h_6 : PH) =>
 oI .i64 (h_6.cell ((⟨b3, 0, none⟩ : Addr).add 0)) fun x29 =>
 xBlk (fun J_5 =>
 xIte (x29 == 9) (fun J_6 =>
 xDraw h_6 fun hs_2 =>
 oI .i64 (hs_2.cell ((⟨b3, 0, none⟩ : Addr).add 2)) fun x33 =>
 xNn a0 fun x35 =>
 oS (hs_2.cell (x35.add 2)) fun x37a x37l x37c =>
 Q (.bool (decide ((x33 : Int) < ((x37l : Nat) : Int)))) h_6)
 (fun J_6 =>
 xIte (x29 == 4) (fun J_7 =>
 Q (.bool true) h_6)
 (fun J_7 =>
 J_7 h_6)
 (fun  (h_7 : PH) =>
 J_6 h_7))
 (fun  (h_8 : PH) =>
 J_5 h_8))
 (fun  (h_9 : PH) =>
 oI .i64 (h_9.cell ((⟨b3, 0, none⟩ : Addr).add 2)) fun x43 =>
 Q (.bool (x43 == 0)) h_9))) h_4) h_3) h_2
theorem P_ghost_Log_may_eq (a0 : Option Addr) (a1_0 : Int) (a1_1 : Int) (a1_2 : Int) (h : PH) (Q : Value → PH → Prop) : dFn Try.prog Try.f71 A_ghost_Log_may #[(.pointer a0), (.agg #[(.int .i64 a1_0), (.int .i64 a1_1), (.int .i64 a1_2)])] h Q = P_ghost_Log_may a0 a1_0 a1_1 a1_2 h Q := by kernel_rfl
theorem P_ghost_Log_may_of {a0 : Option Addr} {a1_0 : Int} {a1_1 : Int} {a1_2 : Int} {h : PH} {Q : Value → PH → Prop} (x : P_ghost_Log_may a0 a1_0 a1_1 a1_2 h Q) : Meets Try.prog 71 #[(.pointer a0), (.agg #[(.int .i64 a1_0), (.int .i64 a1_1), (.int .i64 a1_2)])] h Q :=
  spec_of Try.func71 mix (by kernel_rfl) ((P_ghost_Log_may_eq a0 a1_0 a1_1 a1_2 h Q).symm ▸ x)
/-- (futtock/ghost.thread).takes -/
def A_ghost_thread_takes : Ann := .seq (.leaf) (.seq (.seq (.leaf) (.cond [] (.seq (.leaf) (.leaf)) (.leaf))) (.seq (.seq (.leaf) (.block [] (.seq (.leaf) (.cond [] (.seq (.leaf) (.leaf)) (.seq (.seq (.leaf) (.cond [(22, .bool)] (.leaf) (.leaf))) (.cond [] (.seq (.leaf) (.leaf)) (.leaf))))))) (.seq (.draw [(0, .flt), (1, .flt), (2, .flt), (3, .flt), (4, .flt), (5, .flt), (6, .flt), (7, .flt), (8, .flt), (9, .eff), (10, .flt), (11, .flt), (12, .flt)]) (.leaf))))
def P_ghost_thread_takes (a0_0 : Int) (a0_1 : Int) (a0_2 : Int) (a0_3 : Int) (a0_4 : Bool) (a0_5 : Int) (a0_6 : Int) (a0_7 : Int) (a0_8 : Int) (a0_9 : Int) (a0_10 : Int) (a1_0 : Int) (a1_1 : Int) (a1_2 : Int) (a1_3 : Int) (a1_4 : Int) (h : PH) (Q : Value → PH → Prop) : Prop :=
 xNew h (.cells #[(.int .i64 a0_0), (.int .i64 a0_1), (.int .i64 a0_2), (.int .i64 a0_3), (.bool a0_4), (.int .i64 a0_5), (.int .i64 a0_6), (.int .i64 a0_7), (.int .i64 a0_8), (.int .i64 a0_9), (.int .i64 a0_10)] 147 (0, 0)) fun b2 h_1 =>
 xNew h_1 (.cells #[(.int .i64 a1_0), (.int .i64 a1_1), (.int .i64 a1_2), (.int .i64 a1_3), (.int .i64 a1_4)] 33 (0, 0)) fun b3 h_2 =>
 oB (h_2.cell ((⟨b2, 0, none⟩ : Addr).add 4)) fun x6 =>
 xSc (!x6) false (fun J_1 =>
 oI .i64 (h_2.cell ((⟨b2, 0, none⟩ : Addr).add 0)) fun x9_0 =>
 oI .i64 (h_2.cell ((⟨b2, 0, none⟩ : Addr).add 1)) fun x9_1 =>
 oI .i64 (h_2.cell ((⟨b2, 0, none⟩ : Addr).add 2)) fun x9_2 =>
 oI .i64 (h_2.cell ((⟨b2, 0, none⟩ : Addr).add 3)) fun x9_3 =>
 oB (h_2.cell ((⟨b2, 0, none⟩ : Addr).add 4)) fun x9_4 =>
 oI .i64 (h_2.cell ((⟨b2, 0, none⟩ : Addr).add 5)) fun x9_5 =>
 oI .i64 (h_2.cell ((⟨b2, 0, none⟩ : Addr).add 6)) fun x9_6 =>
 oI .i64 (h_2.cell ((⟨b2, 0, none⟩ : Addr).add 7)) fun x9_7 =>
 oI .i64 (h_2.cell ((⟨b2, 0, none⟩ : Addr).add 8)) fun x9_8 =>
 oI .i64 (h_2.cell ((⟨b2, 0, none⟩ : Addr).add 9)) fun x9_9 =>
 oI .i64 (h_2.cell ((⟨b2, 0, none⟩ : Addr).add 10)) fun x9_10 =>
 oI .i64 (h_2.cell ((⟨b3, 0, none⟩ : Addr).add 0)) fun x10_0 =>
 oI .i64 (h_2.cell ((⟨b3, 0, none⟩ : Addr).add 1)) fun x10_1 =>
 oI .i64 (h_2.cell ((⟨b3, 0, none⟩ : Addr).add 2)) fun x10_2 =>
 oI .i64 (h_2.cell ((⟨b3, 0, none⟩ : Addr).add 3)) fun x10_3 =>
 oI .i64 (h_2.cell ((⟨b3, 0, none⟩ : Addr).add 4)) fun x10_4 =>
 Meets Try.prog 100 #[(.agg #[(.int .i64 x9_0), (.int .i64 x9_1), (.int .i64 x9_2), (.int .i64 x9_3), (.bool x9_4), (.int .i64 x9_5), (.int .i64 x9_6), (.int .i64 x9_7), (.int .i64 x9_8), (.int .i64 x9_9), (.int .i64 x9_10)]), (.agg #[(.int .i64 x10_0), (.int .i64 x10_1), (.int .i64 x10_2), (.int .i64 x10_3), (.int .i64 x10_4)])] h_2 fun v11 h_3 =>
 oB (some v11) fun x11 =>
 J_1 (!x11) h_3)
 (fun r13 h_4 =>
 xIte r13 (fun J_2 =>
 Q (.bool false) h_4)
 (fun J_2 =>
 J_2 h_4)
 (fun  (h_5 : PH) =>
 oI .i64 (h_5.cell (((⟨b2, 0, none⟩ : Addr).add 0).add 0)) fun x16 =>
 xBlk (fun J_3 =>
 xIte (x16 == 4) (fun J_4 =>
 oI .i64 (h_5.cell ((⟨b2, 0, none⟩ : Addr).add 0)) fun x19_0 =>
 oI .i64 (h_5.cell ((⟨b2, 0, none⟩ : Addr).add 1)) fun x19_1 =>
 oI .i64 (h_5.cell ((⟨b2, 0, none⟩ : Addr).add 2)) fun x19_2 =>
 oI .i64 (h_5.cell ((⟨b2, 0, none⟩ : Addr).add 3)) fun x19_3 =>
 oB (h_5.cell ((⟨b2, 0, none⟩ : Addr).add 4)) fun x19_4 =>
 oI .i64 (h_5.cell ((⟨b2, 0, none⟩ : Addr).add 5)) fun x19_5 =>
 oI .i64 (h_5.cell ((⟨b2, 0, none⟩ : Addr).add 6)) fun x19_6 =>
 oI .i64 (h_5.cell ((⟨b2, 0, none⟩ : Addr).add 7)) fun x19_7 =>
 oI .i64 (h_5.cell ((⟨b2, 0, none⟩ : Addr).add 8)) fun x19_8 =>
 oI .i64 (h_5.cell ((⟨b2, 0, none⟩ : Addr).add 9)) fun x19_9 =>
 oI .i64 (h_5.cell ((⟨b2, 0, none⟩ : Addr).add 10)) fun x19_10 =>
 oI .i64 (h_5.cell ((⟨b3, 0, none⟩ : Addr).add 0)) fun x20_0 =>
 oI .i64 (h_5.cell ((⟨b3, 0, none⟩ : Addr).add 1)) fun x20_1 =>
 oI .i64 (h_5.cell ((⟨b3, 0, none⟩ : Addr).add 2)) fun x20_2 =>
 oI .i64 (h_5.cell ((⟨b3, 0, none⟩ : Addr).add 3)) fun x20_3 =>
 oI .i64 (h_5.cell ((⟨b3, 0, none⟩ : Addr).add 4)) fun x20_4 =>
 Meets Try.prog 101 #[(.agg #[(.int .i64 x19_0), (.int .i64 x19_1), (.int .i64 x19_2), (.int .i64 x19_3), (.bool x19_4), (.int .i64 x19_5), (.int .i64 x19_6), (.int .i64 x19_7), (.int .i64 x19_8), (.int .i64 x19_9), (.int .i64 x19_10)]), (.agg #[(.int .i64 x20_0), (.int .i64 x20_1), (.int .i64 x20_2), (.int .i64 x20_3), (.int .i64 x20_4)])] h_5 fun v21 h_6 =>
 oB (some v21) fun x21 =>
 Q (.bool x21) h_6)
 (fun J_4 =>
 xIte (x16 == 5) (fun J_5 =>
 J_5 (x16 == 5) h_5)
 (fun J_5 =>
 J_5 (x16 == 6) h_5)
 (fun (x22 : Bool) (h_7 : PH) =>
 xIte x22 (fun J_6 =>
 oI .i64 (h_7.cell ((⟨b2, 0, none⟩ : Addr).add 0)) fun x25_0 =>
 oI .i64 (h_7.cell ((⟨b2, 0, none⟩ : Addr).add 1)) fun x25_1 =>
 oI .i64 (h_7.cell ((⟨b2, 0, none⟩ : Addr).add 2)) fun x25_2 =>
 oI .i64 (h_7.cell ((⟨b2, 0, none⟩ : Addr).add 3)) fun x25_3 =>
 oB (h_7.cell ((⟨b2, 0, none⟩ : Addr).add 4)) fun x25_4 =>
 oI .i64 (h_7.cell ((⟨b2, 0, none⟩ : Addr).add 5)) fun x25_5 =>
 oI .i64 (h_7.cell ((⟨b2, 0, none⟩ : Addr).add 6)) fun x25_6 =>
 oI .i64 (h_7.cell ((⟨b2, 0, none⟩ : Addr).add 7)) fun x25_7 =>
 oI .i64 (h_7.cell ((⟨b2, 0, none⟩ : Addr).add 8)) fun x25_8 =>
 oI .i64 (h_7.cell ((⟨b2, 0, none⟩ : Addr).add 9)) fun x25_9 =>
 oI .i64 (h_7.cell ((⟨b2, 0, none⟩ : Addr).add 10)) fun x25_10 =>
 oI .i64 (h_7.cell ((⟨b3, 0, none⟩ : Addr).add 0)) fun x26_0 =>
 oI .i64 (h_7.cell ((⟨b3, 0, none⟩ : Addr).add 1)) fun x26_1 =>
 oI .i64 (h_7.cell ((⟨b3, 0, none⟩ : Addr).add 2)) fun x26_2 =>
 oI .i64 (h_7.cell ((⟨b3, 0, none⟩ : Addr).add 3)) fun x26_3 =>
 oI .i64 (h_7.cell ((⟨b3, 0, none⟩ : Addr).add 4)) fun x26_4 =>
 Meets Try.prog 102 #[(.agg #[(.int .i64 x25_0), (.int .i64 x25_1), (.int .i64 x25_2), (.int .i64 x25_3), (.bool x25_4), (.int .i64 x25_5), (.int .i64 x25_6), (.int .i64 x25_7), (.int .i64 x25_8), (.int .i64 x25_9), (.int .i64 x25_10)]), (.agg #[(.int .i64 x26_0), (.int .i64 x26_1), (.int .i64 x26_2), (.int .i64 x26_3), (.int .i64 x26_4)])] h_7 fun v27 h_8 =>
 oB (some v27) fun x27 =>
 Q (.bool x27) h_8)
 (fun J_6 =>
 J_6 h_7)
 (fun  (h_9 : PH) =>
 J_4 h_9)))
 (fun  (h_10 : PH) =>
 J_3 h_10))
 (fun  (h_11 : PH) =>
 xDraw h_11 fun hs_1 =>
 oI .i64 (hs_1.cell ((⟨b2, 0, none⟩ : Addr).add 5)) fun x29 =>
 xSc (x29 == 0) true (fun J_7 =>
 oI .i64 (hs_1.cell ((⟨b3, 0, none⟩ : Addr).add 0)) fun x33 =>
 oI .i64 (hs_1.cell (((⟨b2, 0, none⟩ : Addr).add 0).add 0)) fun x36 =>
 Meets Try.prog 99 #[(.int .i64 x36)] h_11 fun v37 h_12 =>
 oI .i64 (some v37) fun x37 =>
 PH.le hs_1 h_12 ∧
 J_7 (x33 == x37) h_12)
 (fun r39 h_13 =>
 Q (.bool r39) h_13) h_11))) h_2
theorem P_ghost_thread_takes_eq (a0_0 : Int) (a0_1 : Int) (a0_2 : Int) (a0_3 : Int) (a0_4 : Bool) (a0_5 : Int) (a0_6 : Int) (a0_7 : Int) (a0_8 : Int) (a0_9 : Int) (a0_10 : Int) (a1_0 : Int) (a1_1 : Int) (a1_2 : Int) (a1_3 : Int) (a1_4 : Int) (h : PH) (Q : Value → PH → Prop) : dFn Try.prog Try.f72 A_ghost_thread_takes #[(.agg #[(.int .i64 a0_0), (.int .i64 a0_1), (.int .i64 a0_2), (.int .i64 a0_3), (.bool a0_4), (.int .i64 a0_5), (.int .i64 a0_6), (.int .i64 a0_7), (.int .i64 a0_8), (.int .i64 a0_9), (.int .i64 a0_10)]), (.agg #[(.int .i64 a1_0), (.int .i64 a1_1), (.int .i64 a1_2), (.int .i64 a1_3), (.int .i64 a1_4)])] h Q = P_ghost_thread_takes a0_0 a0_1 a0_2 a0_3 a0_4 a0_5 a0_6 a0_7 a0_8 a0_9 a0_10 a1_0 a1_1 a1_2 a1_3 a1_4 h Q := by kernel_rfl
theorem P_ghost_thread_takes_of {a0_0 : Int} {a0_1 : Int} {a0_2 : Int} {a0_3 : Int} {a0_4 : Bool} {a0_5 : Int} {a0_6 : Int} {a0_7 : Int} {a0_8 : Int} {a0_9 : Int} {a0_10 : Int} {a1_0 : Int} {a1_1 : Int} {a1_2 : Int} {a1_3 : Int} {a1_4 : Int} {h : PH} {Q : Value → PH → Prop} (x : P_ghost_thread_takes a0_0 a0_1 a0_2 a0_3 a0_4 a0_5 a0_6 a0_7 a0_8 a0_9 a0_10 a1_0 a1_1 a1_2 a1_3 a1_4 h Q) : Meets Try.prog 72 #[(.agg #[(.int .i64 a0_0), (.int .i64 a0_1), (.int .i64 a0_2), (.int .i64 a0_3), (.bool a0_4), (.int .i64 a0_5), (.int .i64 a0_6), (.int .i64 a0_7), (.int .i64 a0_8), (.int .i64 a0_9), (.int .i64 a0_10)]), (.agg #[(.int .i64 a1_0), (.int .i64 a1_1), (.int .i64 a1_2), (.int .i64 a1_3), (.int .i64 a1_4)])] h Q :=
  spec_of Try.func72 mix (by kernel_rfl) ((P_ghost_thread_takes_eq a0_0 a0_1 a0_2 a0_3 a0_4 a0_5 a0_6 a0_7 a0_8 a0_9 a0_10 a1_0 a1_1 a1_2 a1_3 a1_4 h Q).symm ▸ x)
/-- (futtock/ghost.thread).told -/
def A_ghost_thread_told : Ann := .seq (.leaf) (.seq (.seq (.leaf) (.cond [] (.seq (.leaf) (.leaf)) (.leaf))) (.seq (.draw [(0, .flt), (1, .flt), (2, .flt), (3, .flt), (4, .flt), (5, .flt), (6, .eff), (7, .flt), (8, .flt)]) (.seq (.seq (.leaf) (.block [] (.seq (.leaf) (.cond [] (.seq (.draw [(0, .flt), (1, .flt), (2, .flt), (3, .flt), (4, .flt), (5, .flt), (6, .flt), (7, .flt), (8, .flt), (9, .flt), (10, .flt), (11, .flt), (12, .flt), (13, .flt), (14, .flt), (15, .flt), (16, .flt), (17, .flt), (18, .flt)]) (.leaf)) (.seq (.leaf) (.cond [] (.seq (.draw [(0, .flt), (1, .flt), (2, .flt), (3, .flt), (4, .flt), (5, .flt), (6, .flt), (7, .flt), (8, .flt), (9, .flt)]) (.leaf)) (.seq (.seq (.leaf) (.cond [(52, .bool)] (.leaf) (.seq (.leaf) (.cond [(52, .bool)] (.leaf) (.leaf))))) (.cond [] (.seq (.draw [(0, .flt), (1, .flt), (2, .flt), (3, .flt), (4, .flt), (5, .flt), (6, .flt), (7, .flt), (8, .flt), (9, .flt)]) (.leaf)) (.leaf))))))))) (.seq (.draw [(0, .flt), (1, .flt), (2, .flt), (3, .flt), (4, .flt), (5, .flt), (6, .flt)]) (.leaf)))))
def P_ghost_thread_told (a0_0 : Int) (a0_1 : Int) (a0_2 : Int) (a0_3 : Int) (a0_4 : Bool) (a0_5 : Int) (a0_6 : Int) (a0_7 : Int) (a0_8 : Int) (a0_9 : Int) (a0_10 : Int) (h : PH) (Q : Value → PH → Prop) : Prop :=
 xNew h (.cells #[(.int .i64 a0_0), (.int .i64 a0_1), (.int .i64 a0_2), (.int .i64 a0_3), (.bool a0_4), (.int .i64 a0_5), (.int .i64 a0_6), (.int .i64 a0_7), (.int .i64 a0_8), (.int .i64 a0_9), (.int .i64 a0_10)] 147 (0, 0)) fun b1 h_1 =>
 oB (h_1.cell ((⟨b1, 0, none⟩ : Addr).add 4)) fun x7 =>
 xSc (!x7) false (fun J_1 =>
 oI .i64 (h_1.cell ((⟨b1, 0, none⟩ : Addr).add 5)) fun x11 =>
 J_1 (x11 == 0) h_1)
 (fun r13 h_2 =>
 xIte r13 (fun J_2 =>
 Q (.tuple #[(.int .i64 0), (.int .i64 0), (.bool false)]) h_2)
 (fun J_2 =>
 J_2 h_2)
 (fun  (h_3 : PH) =>
 xDraw h_3 fun hs_1 =>
 oI .i64 (hs_1.cell (((⟨b1, 0, none⟩ : Addr).add 6).add 0)) fun x16 =>
 oI .i64 (hs_1.cell (((⟨b1, 0, none⟩ : Addr).add 0).add 0)) fun x19 =>
 Meets Try.prog 99 #[(.int .i64 x19)] h_3 fun v20 h_4 =>
 oI .i64 (some v20) fun x20 =>
 PH.le hs_1 h_4 ∧
 oI .i64 (h_4.cell (((⟨b1, 0, none⟩ : Addr).add 0).add 0)) fun x24 =>
 xBlk (fun J_3 =>
 xIte (x24 == 4) (fun J_4 =>
 xDraw h_4 fun hs_2 =>
 oI .i64 (hs_2.cell (((⟨b1, 0, none⟩ : Addr).add 6).add 4)) fun x29 =>
 xSc (x16 == x20) false (fun J_5 =>
 oI .i64 (hs_2.cell (((⟨b1, 0, none⟩ : Addr).add 6).add 0)) fun x34 =>
 xSc (x34 == 4) true (fun J_6 =>
 oI .i64 (hs_2.cell (((⟨b1, 0, none⟩ : Addr).add 6).add 4)) fun x39 =>
 J_6 (x39 != 0) h_4)
 (fun r41 h_5 =>
 J_5 r41 h_5) h_4)
 (fun r42 h_6 =>
 Q (.tuple #[(.int .i64 0), (.int .i64 x29), (.bool r42)]) h_6) h_4)
 (fun J_4 =>
 xIte (x24 == 6) (fun J_7 =>
 xDraw h_4 fun hs_3 =>
 oI .i64 (hs_3.cell ((⟨b1, 0, none⟩ : Addr).add 5)) fun x46 =>
 oI .i64 (hs_3.cell (((⟨b1, 0, none⟩ : Addr).add 6).add 4)) fun x50 =>
 Q (.tuple #[(.int .i64 (IntKind.wrap .i64 (x46 - 1))), (.int .i64 x50), (.bool (x16 == x20))]) h_4)
 (fun J_7 =>
 xIte (x24 == 5) (fun J_8 =>
 J_8 (x24 == 5) h_4)
 (fun J_8 =>
 xIte (x24 == 7) (fun J_9 =>
 J_9 (x24 == 7) h_4)
 (fun J_9 =>
 J_9 (x24 == 8) h_4)
 (fun (x52 : Bool) (h_7 : PH) =>
 J_8 x52 h_7))
 (fun (x52_1 : Bool) (h_8 : PH) =>
 xIte x52_1 (fun J_10 =>
 xDraw h_8 fun hs_4 =>
 oI .i64 (hs_4.cell (((⟨b1, 0, none⟩ : Addr).add 6).add 3)) fun x58 =>
 oI .i64 (hs_4.cell (((⟨b1, 0, none⟩ : Addr).add 6).add 4)) fun x61 =>
 Q (.tuple #[(.int .i64 x58), (.int .i64 x61), (.bool (x16 == x20))]) h_8)
 (fun J_10 =>
 J_10 h_8)
 (fun  (h_9 : PH) =>
 J_7 h_9)))
 (fun  (h_10 : PH) =>
 J_4 h_10))
 (fun  (h_11 : PH) =>
 J_3 h_11))
 (fun  (h_12 : PH) =>
 xDraw h_12 fun hs_5 =>
 oI .i64 (hs_5.cell (((⟨b1, 0, none⟩ : Addr).add 6).add 4)) fun x65 =>
 Q (.tuple #[(.int .i64 0), (.int .i64 x65), (.bool (x16 == x20))]) h_12))) h_1
theorem P_ghost_thread_told_eq (a0_0 : Int) (a0_1 : Int) (a0_2 : Int) (a0_3 : Int) (a0_4 : Bool) (a0_5 : Int) (a0_6 : Int) (a0_7 : Int) (a0_8 : Int) (a0_9 : Int) (a0_10 : Int) (h : PH) (Q : Value → PH → Prop) : dFn Try.prog Try.f73 A_ghost_thread_told #[(.agg #[(.int .i64 a0_0), (.int .i64 a0_1), (.int .i64 a0_2), (.int .i64 a0_3), (.bool a0_4), (.int .i64 a0_5), (.int .i64 a0_6), (.int .i64 a0_7), (.int .i64 a0_8), (.int .i64 a0_9), (.int .i64 a0_10)])] h Q = P_ghost_thread_told a0_0 a0_1 a0_2 a0_3 a0_4 a0_5 a0_6 a0_7 a0_8 a0_9 a0_10 h Q := by kernel_rfl
theorem P_ghost_thread_told_of {a0_0 : Int} {a0_1 : Int} {a0_2 : Int} {a0_3 : Int} {a0_4 : Bool} {a0_5 : Int} {a0_6 : Int} {a0_7 : Int} {a0_8 : Int} {a0_9 : Int} {a0_10 : Int} {h : PH} {Q : Value → PH → Prop} (x : P_ghost_thread_told a0_0 a0_1 a0_2 a0_3 a0_4 a0_5 a0_6 a0_7 a0_8 a0_9 a0_10 h Q) : Meets Try.prog 73 #[(.agg #[(.int .i64 a0_0), (.int .i64 a0_1), (.int .i64 a0_2), (.int .i64 a0_3), (.bool a0_4), (.int .i64 a0_5), (.int .i64 a0_6), (.int .i64 a0_7), (.int .i64 a0_8), (.int .i64 a0_9), (.int .i64 a0_10)])] h Q :=
  spec_of Try.func73 mix (by kernel_rfl) ((P_ghost_thread_told_eq a0_0 a0_1 a0_2 a0_3 a0_4 a0_5 a0_6 a0_7 a0_8 a0_9 a0_10 h Q).symm ▸ x)
/-- slices.Clone[[]futtock/ghost.Entry,futtock/ghost.Entry] -/
def A_slices_Clone_ghost_Entry_ghost_Entry : Ann := .seq (.leaf) (.seq (.seq (.leaf) (.cond [] (.seq (.leaf) (.leaf)) (.leaf))) (.seq (.leaf) (.leaf)))
def P_slices_Clone_ghost_Entry_ghost_Entry (a0a : Option Addr) (a0l : Nat) (a0c : Nat) (h : PH) (Q : Value → PH → Prop) : Prop :=
 xIte (Option.isNone a0a) (fun J_1 =>
 Q (.slice none 0 0) h)
 (fun J_1 =>
 J_1 h)
 (fun  (h_1 : PH) =>
 xNew h_1 (.cells #[] 90 (0, 0)) fun b5 h_2 =>
 xApp h_2 90 13 104 (some (⟨b5, 0, none⟩ : Addr)) 0 0 (.slice a0a a0l a0c) fun x7a x7l x7c h_3 =>
 Q (.slice x7a x7l x7c) h_3)
theorem P_slices_Clone_ghost_Entry_ghost_Entry_eq (a0a : Option Addr) (a0l : Nat) (a0c : Nat) (h : PH) (Q : Value → PH → Prop) : dFn Try.prog Try.f74 A_slices_Clone_ghost_Entry_ghost_Entry #[(.slice a0a a0l a0c)] h Q = P_slices_Clone_ghost_Entry_ghost_Entry a0a a0l a0c h Q := by kernel_rfl
theorem P_slices_Clone_ghost_Entry_ghost_Entry_of {a0a : Option Addr} {a0l : Nat} {a0c : Nat} {h : PH} {Q : Value → PH → Prop} (x : P_slices_Clone_ghost_Entry_ghost_Entry a0a a0l a0c h Q) : Meets Try.prog 74 #[(.slice a0a a0l a0c)] h Q :=
  spec_of Try.func74 mix (by kernel_rfl) ((P_slices_Clone_ghost_Entry_ghost_Entry_eq a0a a0l a0c h Q).symm ▸ x)
/-- futtock/ghost.commitOf -/
def A_ghost_commitOf : Ann := .seq (.leaf) (.seq (.seq (.leaf) (.block [] (.seq (.leaf) (.cond [] (.seq (.leaf) (.leaf)) (.seq (.leaf) (.cond [] (.seq (.leaf) (.leaf)) (.seq (.leaf) (.cond [] (.seq (.leaf) (.leaf)) (.seq (.leaf) (.cond [] (.seq (.leaf) (.leaf)) (.seq (.leaf) (.cond [] (.seq (.leaf) (.leaf)) (.seq (.leaf) (.cond [] (.seq (.leaf) (.leaf)) (.seq (.leaf) (.cond [] (.seq (.leaf) (.leaf)) (.seq (.leaf) (.cond [] (.seq (.leaf) (.leaf)) (.seq (.leaf) (.cond [] (.seq (.leaf) (.leaf)) (.leaf))))))))))))))))))))) (.seq (.leaf) (.leaf)))
def P_ghost_commitOf (a0 : Int) (h : PH) (Q : Value → PH → Prop) : Prop :=
 xBlk (fun J_1 =>
 xIte (a0 == 1) (fun J_2 =>
 Q (.int .i64 1) h)
 (fun J_2 =>
 xIte (a0 == 2) (fun J_3 =>
 Q (.int .i64 2) h)
 (fun J_3 =>
 xIte (a0 == 3) (fun J_4 =>
 Q (.int .i64 3) h)
 (fun J_4 =>
 xIte (a0 == 4) (fun J_5 =>
 Q (.int .i64 6) h)
 (fun J_5 =>
 xIte (a0 == 5) (fun J_6 =>
 Q (.int .i64 8) h)
 (fun J_6 =>
 xIte (a0 == 6) (fun J_7 =>
 Q (.int .i64 9) h)
 (fun J_7 =>
 xIte (a0 == 7) (fun J_8 =>
 Q (.int .i64 10) h)
 (fun J_8 =>
 xIte (a0 == 8) (fun J_9 =>
 Q (.int .i64 11) h)
 (fun J_9 =>
 xIte (a0 == 9) (fun J_10 =>
 Q (.int .i64 12) h)
 (fun J_10 =>
 J_10 h)
 (fun  (h_1 : PH) =>
 J_9 h_1))
 (fun  (h_2 : PH) =>
 J_8 h_2))
 (fun  (h_3 : PH) =>
 J_7 h_3))
 (fun  (h_4 : PH) =>
 J_6 h_4))
 (fun  (h_5 : PH) =>
 J_5 h_5))
 (fun  (h_6 : PH) =>
 J_4 h_6))
 (fun  (h_7 : PH) =>
 J_3 h_7))
 (fun  (h_8 : PH) =>
 J_2 h_8))
 (fun  (h_9 : PH) =>
 J_1 h_9))
 (fun  (h_10 : PH) =>
 Q (.int .i64 0) h_10)
theorem P_ghost_commitOf_eq (a0 : Int) (h : PH) (Q : Value → PH → Prop) : dFn Try.prog Try.f99 A_ghost_commitOf #[(.int .i64 a0)] h Q = P_ghost_commitOf a0 h Q := by kernel_rfl
theorem P_ghost_commitOf_of {a0 : Int} {h : PH} {Q : Value → PH → Prop} (x : P_ghost_commitOf a0 h Q) : Meets Try.prog 99 #[(.int .i64 a0)] h Q :=
  spec_of Try.func99 mix (by kernel_rfl) ((P_ghost_commitOf_eq a0 h Q).symm ▸ x)
/-- (futtock/ghost.thread).of -/
def A_ghost_thread_of : Ann := .seq (.leaf) (.seq (.seq (.leaf) (.cond [] (.seq (.leaf) (.leaf)) (.leaf))) (.seq (.leaf) (.leaf)))
def P_ghost_thread_of (a0_0 : Int) (a0_1 : Int) (a0_2 : Int) (a0_3 : Int) (a0_4 : Bool) (a0_5 : Int) (a0_6 : Int) (a0_7 : Int) (a0_8 : Int) (a0_9 : Int) (a0_10 : Int) (a1_0 : Int) (a1_1 : Int) (a1_2 : Int) (a1_3 : Int) (a1_4 : Int) (h : PH) (Q : Value → PH → Prop) : Prop :=
 xNew h (.cells #[(.int .i64 a0_0), (.int .i64 a0_1), (.int .i64 a0_2), (.int .i64 a0_3), (.bool a0_4), (.int .i64 a0_5), (.int .i64 a0_6), (.int .i64 a0_7), (.int .i64 a0_8), (.int .i64 a0_9), (.int .i64 a0_10)] 147 (0, 0)) fun b2 h_1 =>
 xNew h_1 (.cells #[(.int .i64 a1_0), (.int .i64 a1_1), (.int .i64 a1_2), (.int .i64 a1_3), (.int .i64 a1_4)] 33 (0, 0)) fun b3 h_2 =>
 oI .i64 (h_2.cell (((⟨b2, 0, none⟩ : Addr).add 0).add 0)) fun x7 =>
 xIte (x7 == 9) (fun J_1 =>
 oI .i64 (h_2.cell ((⟨b3, 0, none⟩ : Addr).add 2)) fun x10 =>
 xSc (x10 == 0) true (fun J_2 =>
 oI .i64 (h_2.cell ((⟨b3, 0, none⟩ : Addr).add 3)) fun x14 =>
 oI .i64 (h_2.cell (((⟨b2, 0, none⟩ : Addr).add 0).add 2)) fun x17 =>
 J_2 (x14 == x17) h_2)
 (fun r19 h_3 =>
 Q (.bool r19) h_3) h_2)
 (fun J_1 =>
 J_1 h_2)
 (fun  (h_4 : PH) =>
 oI .i64 (h_4.cell ((⟨b3, 0, none⟩ : Addr).add 2)) fun x21 =>
 oI .i64 (h_4.cell (((⟨b2, 0, none⟩ : Addr).add 0).add 1)) fun x24 =>
 Q (.bool (x21 == x24)) h_4)
theorem P_ghost_thread_of_eq (a0_0 : Int) (a0_1 : Int) (a0_2 : Int) (a0_3 : Int) (a0_4 : Bool) (a0_5 : Int) (a0_6 : Int) (a0_7 : Int) (a0_8 : Int) (a0_9 : Int) (a0_10 : Int) (a1_0 : Int) (a1_1 : Int) (a1_2 : Int) (a1_3 : Int) (a1_4 : Int) (h : PH) (Q : Value → PH → Prop) : dFn Try.prog Try.f100 A_ghost_thread_of #[(.agg #[(.int .i64 a0_0), (.int .i64 a0_1), (.int .i64 a0_2), (.int .i64 a0_3), (.bool a0_4), (.int .i64 a0_5), (.int .i64 a0_6), (.int .i64 a0_7), (.int .i64 a0_8), (.int .i64 a0_9), (.int .i64 a0_10)]), (.agg #[(.int .i64 a1_0), (.int .i64 a1_1), (.int .i64 a1_2), (.int .i64 a1_3), (.int .i64 a1_4)])] h Q = P_ghost_thread_of a0_0 a0_1 a0_2 a0_3 a0_4 a0_5 a0_6 a0_7 a0_8 a0_9 a0_10 a1_0 a1_1 a1_2 a1_3 a1_4 h Q := by kernel_rfl
theorem P_ghost_thread_of_of {a0_0 : Int} {a0_1 : Int} {a0_2 : Int} {a0_3 : Int} {a0_4 : Bool} {a0_5 : Int} {a0_6 : Int} {a0_7 : Int} {a0_8 : Int} {a0_9 : Int} {a0_10 : Int} {a1_0 : Int} {a1_1 : Int} {a1_2 : Int} {a1_3 : Int} {a1_4 : Int} {h : PH} {Q : Value → PH → Prop} (x : P_ghost_thread_of a0_0 a0_1 a0_2 a0_3 a0_4 a0_5 a0_6 a0_7 a0_8 a0_9 a0_10 a1_0 a1_1 a1_2 a1_3 a1_4 h Q) : Meets Try.prog 100 #[(.agg #[(.int .i64 a0_0), (.int .i64 a0_1), (.int .i64 a0_2), (.int .i64 a0_3), (.bool a0_4), (.int .i64 a0_5), (.int .i64 a0_6), (.int .i64 a0_7), (.int .i64 a0_8), (.int .i64 a0_9), (.int .i64 a0_10)]), (.agg #[(.int .i64 a1_0), (.int .i64 a1_1), (.int .i64 a1_2), (.int .i64 a1_3), (.int .i64 a1_4)])] h Q :=
  spec_of Try.func100 mix (by kernel_rfl) ((P_ghost_thread_of_eq a0_0 a0_1 a0_2 a0_3 a0_4 a0_5 a0_6 a0_7 a0_8 a0_9 a0_10 a1_0 a1_1 a1_2 a1_3 a1_4 h Q).symm ▸ x)
/-- (futtock/ghost.thread).waits -/
def A_ghost_thread_waits : Ann := .seq (.leaf) (.seq (.block [] (.seq (.leaf) (.cond [] (.seq (.leaf) (.leaf)) (.seq (.leaf) (.cond [] (.seq (.leaf) (.leaf)) (.leaf)))))) (.seq (.leaf) (.leaf)))
def P_ghost_thread_waits (a0_0 : Int) (a0_1 : Int) (a0_2 : Int) (a0_3 : Int) (a0_4 : Bool) (a0_5 : Int) (a0_6 : Int) (a0_7 : Int) (a0_8 : Int) (a0_9 : Int) (a0_10 : Int) (a1_0 : Int) (a1_1 : Int) (a1_2 : Int) (a1_3 : Int) (a1_4 : Int) (h : PH) (Q : Value → PH → Prop) : Prop :=
 xNew h (.cells #[(.int .i64 a0_0), (.int .i64 a0_1), (.int .i64 a0_2), (.int .i64 a0_3), (.bool a0_4), (.int .i64 a0_5), (.int .i64 a0_6), (.int .i64 a0_7), (.int .i64 a0_8), (.int .i64 a0_9), (.int .i64 a0_10)] 147 (0, 0)) fun b2 h_1 =>
 xNew h_1 (.cells #[(.int .i64 a1_0), (.int .i64 a1_1), (.int .i64 a1_2), (.int .i64 a1_3), (.int .i64 a1_4)] 33 (0, 0)) fun b3 h_2 =>
 xBlk (fun J_1 =>
 oI .i64 (h_2.cell ((⟨b2, 0, none⟩ : Addr).add 5)) fun x7 =>
 xIte (x7 == 0) (fun J_2 =>
 oI .i64 (h_2.cell ((⟨b3, 0, none⟩ : Addr).add 0)) fun x10 =>
 Q (.bool (x10 == 4)) h_2)
 (fun J_2 =>
 oI .i64 (h_2.cell (((⟨b2, 0, none⟩ : Addr).add 6).add 0)) fun x15 =>
 xSc (x15 == 4) true (fun J_3 =>
 oI .i64 (h_2.cell (((⟨b2, 0, none⟩ : Addr).add 6).add 4)) fun x20 =>
 J_3 (x20 == 0) h_2)
 (fun r22 h_3 =>
 xIte r22 (fun J_4 =>
 oI .i64 (h_3.cell ((⟨b3, 0, none⟩ : Addr).add 0)) fun x24 =>
 xSc (x24 == 5) false (fun J_5 =>
 oI .i64 (h_3.cell ((⟨b3, 0, none⟩ : Addr).add 0)) fun x28 =>
 J_5 (x28 == 6) h_3)
 (fun r30 h_4 =>
 Q (.bool r30) h_4) h_3)
 (fun J_4 =>
 J_4 h_3)
 (fun  (h_5 : PH) =>
 J_2 h_5)) h_2)
 (fun  (h_6 : PH) =>
 J_1 h_6))
 (fun  (h_7 : PH) =>
 oI .i64 (h_7.cell (((⟨b2, 0, none⟩ : Addr).add 6).add 0)) fun x33 =>
 xSc (x33 == 5) true (fun J_6 =>
 oI .i64 (h_7.cell ((⟨b3, 0, none⟩ : Addr).add 0)) fun x37 =>
 J_6 (x37 == 6) h_7)
 (fun r39 h_8 =>
 Q (.bool r39) h_8) h_7)
theorem P_ghost_thread_waits_eq (a0_0 : Int) (a0_1 : Int) (a0_2 : Int) (a0_3 : Int) (a0_4 : Bool) (a0_5 : Int) (a0_6 : Int) (a0_7 : Int) (a0_8 : Int) (a0_9 : Int) (a0_10 : Int) (a1_0 : Int) (a1_1 : Int) (a1_2 : Int) (a1_3 : Int) (a1_4 : Int) (h : PH) (Q : Value → PH → Prop) : dFn Try.prog Try.f101 A_ghost_thread_waits #[(.agg #[(.int .i64 a0_0), (.int .i64 a0_1), (.int .i64 a0_2), (.int .i64 a0_3), (.bool a0_4), (.int .i64 a0_5), (.int .i64 a0_6), (.int .i64 a0_7), (.int .i64 a0_8), (.int .i64 a0_9), (.int .i64 a0_10)]), (.agg #[(.int .i64 a1_0), (.int .i64 a1_1), (.int .i64 a1_2), (.int .i64 a1_3), (.int .i64 a1_4)])] h Q = P_ghost_thread_waits a0_0 a0_1 a0_2 a0_3 a0_4 a0_5 a0_6 a0_7 a0_8 a0_9 a0_10 a1_0 a1_1 a1_2 a1_3 a1_4 h Q := by kernel_rfl
theorem P_ghost_thread_waits_of {a0_0 : Int} {a0_1 : Int} {a0_2 : Int} {a0_3 : Int} {a0_4 : Bool} {a0_5 : Int} {a0_6 : Int} {a0_7 : Int} {a0_8 : Int} {a0_9 : Int} {a0_10 : Int} {a1_0 : Int} {a1_1 : Int} {a1_2 : Int} {a1_3 : Int} {a1_4 : Int} {h : PH} {Q : Value → PH → Prop} (x : P_ghost_thread_waits a0_0 a0_1 a0_2 a0_3 a0_4 a0_5 a0_6 a0_7 a0_8 a0_9 a0_10 a1_0 a1_1 a1_2 a1_3 a1_4 h Q) : Meets Try.prog 101 #[(.agg #[(.int .i64 a0_0), (.int .i64 a0_1), (.int .i64 a0_2), (.int .i64 a0_3), (.bool a0_4), (.int .i64 a0_5), (.int .i64 a0_6), (.int .i64 a0_7), (.int .i64 a0_8), (.int .i64 a0_9), (.int .i64 a0_10)]), (.agg #[(.int .i64 a1_0), (.int .i64 a1_1), (.int .i64 a1_2), (.int .i64 a1_3), (.int .i64 a1_4)])] h Q :=
  spec_of Try.func101 mix (by kernel_rfl) ((P_ghost_thread_waits_eq a0_0 a0_1 a0_2 a0_3 a0_4 a0_5 a0_6 a0_7 a0_8 a0_9 a0_10 a1_0 a1_1 a1_2 a1_3 a1_4 h Q).symm ▸ x)
/-- (futtock/ghost.thread).tells -/
def A_ghost_thread_tells : Ann := .seq (.leaf) (.seq (.leaf) (.seq (.block [] (.seq (.leaf) (.cond [] (.seq (.leaf) (.leaf)) (.seq (.leaf) (.cond [] (.seq (.leaf) (.leaf)) (.seq (.draw [(0, .flt), (1, .flt), (2, .flt), (3, .flt), (4, .flt), (5, .eff), (6, .flt), (7, .flt)]) (.cond [] (.seq (.leaf) (.leaf)) (.seq (.leaf) (.cond [] (.seq (.leaf) (.leaf)) (.seq (.leaf) (.cond [] (.seq (.leaf) (.leaf)) (.leaf)))))))))))) (.seq (.leaf) (.leaf))))
def P_ghost_thread_tells (a0_0 : Int) (a0_1 : Int) (a0_2 : Int) (a0_3 : Int) (a0_4 : Bool) (a0_5 : Int) (a0_6 : Int) (a0_7 : Int) (a0_8 : Int) (a0_9 : Int) (a0_10 : Int) (a1_0 : Int) (a1_1 : Int) (a1_2 : Int) (a1_3 : Int) (a1_4 : Int) (h : PH) (Q : Value → PH → Prop) : Prop :=
 xNew h (.cells #[(.int .i64 a0_0), (.int .i64 a0_1), (.int .i64 a0_2), (.int .i64 a0_3), (.bool a0_4), (.int .i64 a0_5), (.int .i64 a0_6), (.int .i64 a0_7), (.int .i64 a0_8), (.int .i64 a0_9), (.int .i64 a0_10)] 147 (0, 0)) fun b2 h_1 =>
 xNew h_1 (.cells #[(.int .i64 a1_0), (.int .i64 a1_1), (.int .i64 a1_2), (.int .i64 a1_3), (.int .i64 a1_4)] 33 (0, 0)) fun b3 h_2 =>
 oI .i64 (h_2.cell ((⟨b2, 0, none⟩ : Addr).add 5)) fun x7 =>
 xBlk (fun J_1 =>
 xSc (decide ((x7 : Int) > 0)) true (fun J_2 =>
 oI .i64 (h_2.cell (((⟨b2, 0, none⟩ : Addr).add 6).add 0)) fun x14 =>
 J_2 (x14 != 7) h_2)
 (fun r16 h_3 =>
 xIte r16 (fun J_3 =>
 Q (.bool false) h_3)
 (fun J_3 =>
 oI .i64 (h_3.cell ((⟨b3, 0, none⟩ : Addr).add 0)) fun x19 =>
 xIte (x19 == 7) (fun J_4 =>
 oI .i64 (h_3.cell (((⟨b2, 0, none⟩ : Addr).add 0).add 0)) fun x23 =>
 xSc (x23 == 6) false (fun J_5 =>
 J_5 (!(decide ((x7 : Int) > 0))) h_3)
 (fun r28 h_4 =>
 Q (.bool r28) h_4) h_3)
 (fun J_4 =>
 xDraw h_3 fun hs_1 =>
 oI .i64 (hs_1.cell ((⟨b3, 0, none⟩ : Addr).add 0)) fun x31 =>
 oI .i64 (hs_1.cell (((⟨b2, 0, none⟩ : Addr).add 0).add 0)) fun x34 =>
 Meets Try.prog 99 #[(.int .i64 x34)] h_3 fun v35 h_5 =>
 oI .i64 (some v35) fun x35 =>
 PH.le hs_1 h_5 ∧
 xIte (x31 != x35) (fun J_6 =>
 Q (.bool false) h_5)
 (fun J_6 =>
 oI .i64 (h_5.cell (((⟨b2, 0, none⟩ : Addr).add 0).add 0)) fun x40 =>
 xIte (x40 == 6) (fun J_7 =>
 Q (.bool true) h_5)
 (fun J_7 =>
 xIte (decide ((x7 : Int) > 0)) (fun J_8 =>
 oI .i64 (h_5.cell ((⟨b3, 0, none⟩ : Addr).add 3)) fun x45 =>
 oI .i64 (h_5.cell (((⟨b2, 0, none⟩ : Addr).add 6).add 3)) fun x48 =>
 Q (.bool (x45 == x48)) h_5)
 (fun J_8 =>
 J_8 h_5)
 (fun  (h_6 : PH) =>
 J_7 h_6))
 (fun  (h_7 : PH) =>
 J_6 h_7))
 (fun  (h_8 : PH) =>
 J_4 h_8))
 (fun  (h_9 : PH) =>
 J_3 h_9))
 (fun  (h_10 : PH) =>
 J_1 h_10)) h_2)
 (fun  (h_11 : PH) =>
 oI .i64 (h_11.cell ((⟨b3, 0, none⟩ : Addr).add 3)) fun x51 =>
 Q (.bool (x51 == (-1))) h_11)
theorem P_ghost_thread_tells_eq (a0_0 : Int) (a0_1 : Int) (a0_2 : Int) (a0_3 : Int) (a0_4 : Bool) (a0_5 : Int) (a0_6 : Int) (a0_7 : Int) (a0_8 : Int) (a0_9 : Int) (a0_10 : Int) (a1_0 : Int) (a1_1 : Int) (a1_2 : Int) (a1_3 : Int) (a1_4 : Int) (h : PH) (Q : Value → PH → Prop) : dFn Try.prog Try.f102 A_ghost_thread_tells #[(.agg #[(.int .i64 a0_0), (.int .i64 a0_1), (.int .i64 a0_2), (.int .i64 a0_3), (.bool a0_4), (.int .i64 a0_5), (.int .i64 a0_6), (.int .i64 a0_7), (.int .i64 a0_8), (.int .i64 a0_9), (.int .i64 a0_10)]), (.agg #[(.int .i64 a1_0), (.int .i64 a1_1), (.int .i64 a1_2), (.int .i64 a1_3), (.int .i64 a1_4)])] h Q = P_ghost_thread_tells a0_0 a0_1 a0_2 a0_3 a0_4 a0_5 a0_6 a0_7 a0_8 a0_9 a0_10 a1_0 a1_1 a1_2 a1_3 a1_4 h Q := by kernel_rfl
theorem P_ghost_thread_tells_of {a0_0 : Int} {a0_1 : Int} {a0_2 : Int} {a0_3 : Int} {a0_4 : Bool} {a0_5 : Int} {a0_6 : Int} {a0_7 : Int} {a0_8 : Int} {a0_9 : Int} {a0_10 : Int} {a1_0 : Int} {a1_1 : Int} {a1_2 : Int} {a1_3 : Int} {a1_4 : Int} {h : PH} {Q : Value → PH → Prop} (x : P_ghost_thread_tells a0_0 a0_1 a0_2 a0_3 a0_4 a0_5 a0_6 a0_7 a0_8 a0_9 a0_10 a1_0 a1_1 a1_2 a1_3 a1_4 h Q) : Meets Try.prog 102 #[(.agg #[(.int .i64 a0_0), (.int .i64 a0_1), (.int .i64 a0_2), (.int .i64 a0_3), (.bool a0_4), (.int .i64 a0_5), (.int .i64 a0_6), (.int .i64 a0_7), (.int .i64 a0_8), (.int .i64 a0_9), (.int .i64 a0_10)]), (.agg #[(.int .i64 a1_0), (.int .i64 a1_1), (.int .i64 a1_2), (.int .i64 a1_3), (.int .i64 a1_4)])] h Q :=
  spec_of Try.func102 mix (by kernel_rfl) ((P_ghost_thread_tells_eq a0_0 a0_1 a0_2 a0_3 a0_4 a0_5 a0_6 a0_7 a0_8 a0_9 a0_10 a1_0 a1_1 a1_2 a1_3 a1_4 h Q).symm ▸ x)
/-- futtock/futtocklaw15.alive -/
def A_law15_alive : Ann := .seq (.leaf) (.seq (.leaf) (.seq (.seq (.leaf) (.cond [] (.seq (.leaf) (.leaf)) (.leaf))) (.seq (.leaf) (.seq (.leaf) (.seq (.leaf) (.seq (.leaf) (.seq (.leaf) (.leaf))))))))
def P_law15_alive  (h : PH) (Q : Value → PH → Prop) : Prop :=
 Meets Try.prog 39 #[(.int .i64 2), (.int .i64 1), (.int .i64 3)] h fun v8 h_1 =>
 oTup v8 2 fun x8cs =>
 oIx x8cs[0]? fun x8w =>
 oP (some x8w) fun x8_0 =>
 oIx x8cs[1]? fun x8w_1 =>
 oI .i64 (some x8w_1) fun x8_1 =>
 oP (some (.pointer x8_0)) fun x9 =>
 oI .i64 (some (.int .i64 x8_1)) fun x10 =>
 xSc (Option.isNone x9) false (fun J_1 =>
 J_1 (x10 != 0) h_1)
 (fun r16 h_2 =>
 xIte r16 (fun J_2 =>
 Q (.bool false) h_2)
 (fun J_2 =>
 J_2 h_2)
 (fun  (h_3 : PH) =>
 Meets Try.prog 40 #[(.pointer x9), (.agg #[(.int .i64 1), (.int .i64 0), (.int .i64 0), (.int .i64 3), (.int .i64 0), (.int .i64 0), (.int .i64 0), (.int .i64 0), (.int .i64 0), (.int .i64 0), (.int .i64 0), (.int .i64 0), (.int .i64 0)])] h_3 fun v20 h_4 =>
 oI .i64 (some v20) fun x20 =>
 Meets Try.prog 40 #[(.pointer x9), (.agg #[(.int .i64 3), (.int .i64 0), (.int .i64 0), (.int .i64 0), (.int .i64 0), (.int .i64 0), (.int .i64 0), (.int .i64 0), (.int .i64 0), (.int .i64 0), (.int .i64 0), (.int .i64 0), (.int .i64 9)])] h_4 fun v23 h_5 =>
 oI .i64 (some v23) fun x23 =>
 Meets Try.prog 40 #[(.pointer x9), (.agg #[(.int .i64 2), (.int .i64 0), (.int .i64 0), (.int .i64 0), (.int .i64 0), (.int .i64 0), (.int .i64 3), (.int .i64 0), (.int .i64 0), (.int .i64 0), (.int .i64 9), (.int .i64 0), (.int .i64 0)])] h_5 fun v27 h_6 =>
 oI .i64 (some v27) fun x27 =>
 Meets Try.prog 40 #[(.pointer x9), (.agg #[(.int .i64 3), (.int .i64 0), (.int .i64 0), (.int .i64 0), (.int .i64 0), (.int .i64 0), (.int .i64 0), (.int .i64 0), (.int .i64 0), (.int .i64 0), (.int .i64 0), (.int .i64 0), (.int .i64 9)])] h_6 fun v30 h_7 =>
 oI .i64 (some v30) fun x30 =>
 xSc (x20 == 0) true (fun J_3 =>
 J_3 (x23 == 15) h_7)
 (fun r36 h_8 =>
 xSc r36 true (fun J_4 =>
 J_4 (x27 == 0) h_8)
 (fun r40 h_9 =>
 xSc r40 true (fun J_5 =>
 J_5 (x30 == 0) h_9)
 (fun r44 h_10 =>
 xSc r44 true (fun J_6 =>
 Meets Try.prog 43 #[(.pointer x9)] h_10 fun v47 h_11 =>
 oI .i64 (some v47) fun x47 =>
 J_6 (x47 == 3) h_11)
 (fun r49 h_12 =>
 Q (.bool r49) h_12) h_10) h_9) h_8) h_7)) h_1
theorem P_law15_alive_eq  (h : PH) (Q : Value → PH → Prop) : dFn Try.prog Try.f38 A_law15_alive #[] h Q = P_law15_alive  h Q := by kernel_rfl
theorem P_law15_alive_of  {h : PH} {Q : Value → PH → Prop} (x : P_law15_alive  h Q) : Meets Try.prog 38 #[] h Q :=
  spec_of Try.func38 mix (by kernel_rfl) ((P_law15_alive_eq  h Q).symm ▸ x)
/-- futtock/futtocklaw15.theirs -/
def A_law15_theirs : Ann := .seq (.leaf) (.seq (.leaf) (.seq (.leaf) (.leaf)))
def P_law15_theirs (a0_0 : Int) (a0_1 : Int) (a0_2 : Int) (a0_3 : Int) (a0_4 : Int) (a0_5 : Int) (a0_6 : Int) (a0_7 : Int) (a0_8 : Int) (a0_9 : Int) (a0_10 : Int) (a0_11 : Int) (a0_12 : Int) (h : PH) (Q : Value → PH → Prop) : Prop :=
 xNew h (.cells #[(.int .i64 a0_0), (.int .i64 a0_1), (.int .i64 a0_2), (.int .i64 a0_3), (.int .i64 a0_4), (.int .i64 a0_5), (.int .i64 a0_6), (.int .i64 a0_7), (.int .i64 a0_8), (.int .i64 a0_9), (.int .i64 a0_10), (.int .i64 a0_11), (.int .i64 a0_12)] 88 (0, 0)) fun b1 h_1 =>
 xNew h_1 (.cells #[(.int .i64 0), (.int .i64 0), (.int .i64 0), (.int .i64 0), (.int .i64 0), (.int .i64 0), (.int .i64 0), (.int .i64 0), (.int .i64 0), (.int .i64 0), (.int .i64 0), (.int .i64 0), (.int .i64 0)] 90 (0, 0)) fun b2 h_2 =>
 oI .i64 (h_2.cell (((⟨b1, 0, none⟩ : Addr).add 6).add 0)) fun x5_0 =>
 oI .i64 (h_2.cell (((⟨b1, 0, none⟩ : Addr).add 6).add 1)) fun x5_1 =>
 oI .i64 (h_2.cell (((⟨b1, 0, none⟩ : Addr).add 6).add 2)) fun x5_2 =>
 oI .i64 (h_2.cell (((⟨b1, 0, none⟩ : Addr).add 6).add 3)) fun x5_3 =>
 oI .i64 (h_2.cell (((⟨b1, 0, none⟩ : Addr).add 6).add 4)) fun x5_4 =>
 xNew h_2 (.cells #[(.int .i64 0), (.int .i64 0), (.int .i64 0), (.int .i64 0), (.int .i64 0)] 29 (0, 0)) fun b3 h_3 =>
 xSt 5 h_3 (⟨b3, 0, none⟩ : Addr) [(.int .i64 x5_0), (.int .i64 x5_1), (.int .i64 x5_2), (.int .i64 x5_3), (.int .i64 x5_4)] fun h_4 =>
 oI .i64 (h_4.cell ((⟨b1, 0, none⟩ : Addr).add 0)) fun x7 =>
 oI .i64 (h_4.cell ((⟨b1, 0, none⟩ : Addr).add 1)) fun x9 =>
 oI .i64 (h_4.cell ((⟨b1, 0, none⟩ : Addr).add 2)) fun x11 =>
 oI .i64 (h_4.cell (((⟨b1, 0, none⟩ : Addr).add 3).add 0)) fun x13_0 =>
 oI .i64 (h_4.cell (((⟨b1, 0, none⟩ : Addr).add 3).add 1)) fun x13_1 =>
 oI .i64 (h_4.cell (((⟨b1, 0, none⟩ : Addr).add 3).add 2)) fun x13_2 =>
 oI .i64 (h_4.cell ((⟨b3, 0, none⟩ : Addr).add 0)) fun x15 =>
 oI .i64 (h_4.cell ((⟨b3, 0, none⟩ : Addr).add 1)) fun x17 =>
 oI .i64 (h_4.cell ((⟨b3, 0, none⟩ : Addr).add 2)) fun x19 =>
 oI .i64 (h_4.cell ((⟨b3, 0, none⟩ : Addr).add 3)) fun x21 =>
 oI .i64 (h_4.cell ((⟨b3, 0, none⟩ : Addr).add 4)) fun x23 =>
 oI .i64 (h_4.cell ((⟨b1, 0, none⟩ : Addr).add 11)) fun x26 =>
 oI .i64 (h_4.cell ((⟨b1, 0, none⟩ : Addr).add 12)) fun x28 =>
 xSt 13 h_4 (⟨b2, 0, none⟩ : Addr) [(.int .i64 x7), (.int .i64 x9), (.int .i64 x11), (.int .i64 x13_0), (.int .i64 x13_1), (.int .i64 x13_2), (.int .i64 x15), (.int .i64 x17), (.int .i64 x19), (.int .i64 x21), (.int .i64 x23), (.int .i64 x26), (.int .i64 x28)] fun h_5 =>
 oI .i64 (h_5.cell ((⟨b2, 0, none⟩ : Addr).add 0)) fun y2_0 =>
 oI .i64 (h_5.cell ((⟨b2, 0, none⟩ : Addr).add 1)) fun y2_1 =>
 oI .i64 (h_5.cell ((⟨b2, 0, none⟩ : Addr).add 2)) fun y2_2 =>
 oI .i64 (h_5.cell ((⟨b2, 0, none⟩ : Addr).add 3)) fun y2_3 =>
 oI .i64 (h_5.cell ((⟨b2, 0, none⟩ : Addr).add 4)) fun y2_4 =>
 oI .i64 (h_5.cell ((⟨b2, 0, none⟩ : Addr).add 5)) fun y2_5 =>
 oI .i64 (h_5.cell ((⟨b2, 0, none⟩ : Addr).add 6)) fun y2_6 =>
 oI .i64 (h_5.cell ((⟨b2, 0, none⟩ : Addr).add 7)) fun y2_7 =>
 oI .i64 (h_5.cell ((⟨b2, 0, none⟩ : Addr).add 8)) fun y2_8 =>
 oI .i64 (h_5.cell ((⟨b2, 0, none⟩ : Addr).add 9)) fun y2_9 =>
 oI .i64 (h_5.cell ((⟨b2, 0, none⟩ : Addr).add 10)) fun y2_10 =>
 oI .i64 (h_5.cell ((⟨b2, 0, none⟩ : Addr).add 11)) fun y2_11 =>
 oI .i64 (h_5.cell ((⟨b2, 0, none⟩ : Addr).add 12)) fun y2_12 =>
 Q (.agg #[(.int .i64 y2_0), (.int .i64 y2_1), (.int .i64 y2_2), (.int .i64 y2_3), (.int .i64 y2_4), (.int .i64 y2_5), (.int .i64 y2_6), (.int .i64 y2_7), (.int .i64 y2_8), (.int .i64 y2_9), (.int .i64 y2_10), (.int .i64 y2_11), (.int .i64 y2_12)]) h_5
theorem P_law15_theirs_eq (a0_0 : Int) (a0_1 : Int) (a0_2 : Int) (a0_3 : Int) (a0_4 : Int) (a0_5 : Int) (a0_6 : Int) (a0_7 : Int) (a0_8 : Int) (a0_9 : Int) (a0_10 : Int) (a0_11 : Int) (a0_12 : Int) (h : PH) (Q : Value → PH → Prop) : dFn Try.prog Try.f35 A_law15_theirs #[(.agg #[(.int .i64 a0_0), (.int .i64 a0_1), (.int .i64 a0_2), (.int .i64 a0_3), (.int .i64 a0_4), (.int .i64 a0_5), (.int .i64 a0_6), (.int .i64 a0_7), (.int .i64 a0_8), (.int .i64 a0_9), (.int .i64 a0_10), (.int .i64 a0_11), (.int .i64 a0_12)])] h Q = P_law15_theirs a0_0 a0_1 a0_2 a0_3 a0_4 a0_5 a0_6 a0_7 a0_8 a0_9 a0_10 a0_11 a0_12 h Q := by kernel_rfl
theorem P_law15_theirs_of {a0_0 : Int} {a0_1 : Int} {a0_2 : Int} {a0_3 : Int} {a0_4 : Int} {a0_5 : Int} {a0_6 : Int} {a0_7 : Int} {a0_8 : Int} {a0_9 : Int} {a0_10 : Int} {a0_11 : Int} {a0_12 : Int} {h : PH} {Q : Value → PH → Prop} (x : P_law15_theirs a0_0 a0_1 a0_2 a0_3 a0_4 a0_5 a0_6 a0_7 a0_8 a0_9 a0_10 a0_11 a0_12 h Q) : Meets Try.prog 35 #[(.agg #[(.int .i64 a0_0), (.int .i64 a0_1), (.int .i64 a0_2), (.int .i64 a0_3), (.int .i64 a0_4), (.int .i64 a0_5), (.int .i64 a0_6), (.int .i64 a0_7), (.int .i64 a0_8), (.int .i64 a0_9), (.int .i64 a0_10), (.int .i64 a0_11), (.int .i64 a0_12)])] h Q :=
  spec_of Try.func35 mix (by kernel_rfl) ((P_law15_theirs_eq a0_0 a0_1 a0_2 a0_3 a0_4 a0_5 a0_6 a0_7 a0_8 a0_9 a0_10 a0_11 a0_12 h Q).symm ▸ x)
/-- futtock/futtocklaw15.GhostNobody -/
def A_law15_GhostNobody : Ann := .seq (.leaf) (.seq (.seq (.leaf) (.block [] (.loop [(15, (.int .i64))] (.seq (.leaf) (.seq (.cond [] (.leaf) (.leaf)) (.seq (.block [] (.seq (.leaf) (.seq (.leaf) (.seq (.leaf) (.cond [] (.seq (.leaf) (.leaf)) (.leaf)))))) (.leaf))))))) (.seq (.leaf) (.seq (.seq (.leaf) (.cond [] (.seq (.leaf) (.leaf)) (.leaf))) (.seq (.leaf) (.seq (.seq (.leaf) (.cond [] (.seq (.leaf) (.leaf)) (.leaf))) (.seq (.leaf) (.seq (.leaf) (.seq (.leaf) (.seq (.leaf) (.leaf))))))))))
def P_law15_GhostNobody (a0_0 : Int) (a0_1 : Int) (a0_2 : Int) (a0_3 : Int) (a0_4 : Int) (a0_5 : Int) (a0_6 : Int) (a0_7 : Int) (a0_8 : Int) (a0_9 : Int) (a0_10 : Int) (a0_11 : Int) (a0_12 : Int) (h : PH) (Q : Value → PH → Prop) : Prop :=
 xNew h (.cells #[(.int .i64 a0_0), (.int .i64 a0_1), (.int .i64 a0_2), (.int .i64 a0_3), (.int .i64 a0_4), (.int .i64 a0_5), (.int .i64 a0_6), (.int .i64 a0_7), (.int .i64 a0_8), (.int .i64 a0_9), (.int .i64 a0_10), (.int .i64 a0_11), (.int .i64 a0_12)] 88 (0, 0)) fun b1 h_1 =>
 xNew h_1 (.cells #[(.int .i64 0), (.pointer none), (.slice none 0 0), (.slice none 0 0)] 109 (0, 0)) fun b12 h_2 =>
 xNew h_2 (.cells #[(.pointer none), (.pointer (some (⟨b12, 0, none⟩ : Addr)))] 99 (0, 0)) fun b13 h_3 =>
 xBlk (fun J_1 =>
 ∃ n, xLoopN (fun _ _ => False) (fun J_2 =>
 (fun (x15 : Int) (h_4 : PH) =>
 xIte (decide ((x15 : Int) < ((2 : Nat) : Int))) (fun J_3 =>
 J_3 h_4)
 (fun J_3 =>
 J_1 h_4)
 (fun  (h_5 : PH) =>
 xBlk (fun J_4 =>
 xIdx (some (⟨b13, 0, none⟩ : Addr)) 2 x15 1 fun x17 =>
 oP (h_5.cell x17) fun x18 =>
 oI .i64 (h_5.cell ((⟨b1, 0, none⟩ : Addr).add 1)) fun x22 =>
 Meets Try.prog 42 #[(.pointer x18), (.int .i64 x22)] h_5 fun v23 h_6 =>
 oTup v23 2 fun x23cs =>
 oIx x23cs[0]? fun x23w =>
 oAgg x23w 3 fun x23_0cs =>
 oI .i64 x23_0cs[0]? fun x23_0_0 =>
 oI .i64 x23_0cs[1]? fun x23_0_1 =>
 oI .i64 x23_0cs[2]? fun x23_0_2 =>
 oIx x23cs[1]? fun x23w_1 =>
 oB (some x23w_1) fun x23_1 =>
 oAgg (.agg #[(.int .i64 x23_0_0), (.int .i64 x23_0_1), (.int .i64 x23_0_2)]) 3 fun x24cs =>
 oI .i64 x24cs[0]? fun x24_0 =>
 oI .i64 x24cs[1]? fun x24_1 =>
 oI .i64 x24cs[2]? fun x24_2 =>
 oB (some (.bool x23_1)) fun x25 =>
 xNew h_6 (.cells #[(.int .i64 0), (.int .i64 0), (.int .i64 0)] 86 (0, 0)) fun b5 h_7 =>
 xSt 3 h_7 (⟨b5, 0, none⟩ : Addr) [(.int .i64 x24_0), (.int .i64 x24_1), (.int .i64 x24_2)] fun h_8 =>
 oI .i64 (h_8.cell ((⟨b1, 0, none⟩ : Addr).add 0)) fun x27_0 =>
 oI .i64 (h_8.cell ((⟨b1, 0, none⟩ : Addr).add 1)) fun x27_1 =>
 oI .i64 (h_8.cell ((⟨b1, 0, none⟩ : Addr).add 2)) fun x27_2 =>
 oI .i64 (h_8.cell ((⟨b1, 0, none⟩ : Addr).add 3)) fun x27_3 =>
 oI .i64 (h_8.cell ((⟨b1, 0, none⟩ : Addr).add 4)) fun x27_4 =>
 oI .i64 (h_8.cell ((⟨b1, 0, none⟩ : Addr).add 5)) fun x27_5 =>
 oI .i64 (h_8.cell ((⟨b1, 0, none⟩ : Addr).add 6)) fun x27_6 =>
 oI .i64 (h_8.cell ((⟨b1, 0, none⟩ : Addr).add 7)) fun x27_7 =>
 oI .i64 (h_8.cell ((⟨b1, 0, none⟩ : Addr).add 8)) fun x27_8 =>
 oI .i64 (h_8.cell ((⟨b1, 0, none⟩ : Addr).add 9)) fun x27_9 =>
 oI .i64 (h_8.cell ((⟨b1, 0, none⟩ : Addr).add 10)) fun x27_10 =>
 oI .i64 (h_8.cell ((⟨b1, 0, none⟩ : Addr).add 11)) fun x27_11 =>
 oI .i64 (h_8.cell ((⟨b1, 0, none⟩ : Addr).add 12)) fun x27_12 =>
 Meets Try.prog 35 #[(.agg #[(.int .i64 x27_0), (.int .i64 x27_1), (.int .i64 x27_2), (.int .i64 x27_3), (.int .i64 x27_4), (.int .i64 x27_5), (.int .i64 x27_6), (.int .i64 x27_7), (.int .i64 x27_8), (.int .i64 x27_9), (.int .i64 x27_10), (.int .i64 x27_11), (.int .i64 x27_12)])] h_8 fun v28 h_9 =>
 oAgg v28 13 fun x28cs =>
 oI .i64 x28cs[0]? fun x28_0 =>
 oI .i64 x28cs[1]? fun x28_1 =>
 oI .i64 x28cs[2]? fun x28_2 =>
 oI .i64 x28cs[3]? fun x28_3 =>
 oI .i64 x28cs[4]? fun x28_4 =>
 oI .i64 x28cs[5]? fun x28_5 =>
 oI .i64 x28cs[6]? fun x28_6 =>
 oI .i64 x28cs[7]? fun x28_7 =>
 oI .i64 x28cs[8]? fun x28_8 =>
 oI .i64 x28cs[9]? fun x28_9 =>
 oI .i64 x28cs[10]? fun x28_10 =>
 oI .i64 x28cs[11]? fun x28_11 =>
 oI .i64 x28cs[12]? fun x28_12 =>
 Meets Try.prog 40 #[(.pointer x18), (.agg #[(.int .i64 x28_0), (.int .i64 x28_1), (.int .i64 x28_2), (.int .i64 x28_3), (.int .i64 x28_4), (.int .i64 x28_5), (.int .i64 x28_6), (.int .i64 x28_7), (.int .i64 x28_8), (.int .i64 x28_9), (.int .i64 x28_10), (.int .i64 x28_11), (.int .i64 x28_12)])] h_9 fun v29 h_10 =>
 oI .i64 (some v29) fun x29 =>
 xSc (x29 != 2) false (fun J_5 =>
 Meets Try.prog 41 #[(.pointer x18)] h_10 fun v33 h_11 =>
 oS (some v33) fun x33a x33l x33c =>
 Meets Try.prog 43 #[(.pointer x18)] h_11 fun v36 h_12 =>
 oI .i64 (some v36) fun x36 =>
 J_5 ((IntKind.wrap .i64 (((x33l : Nat) : Int) + x36)) != 0) h_12)
 (fun r39 h_13 =>
 xSc r39 false (fun J_6 =>
 oI .i64 (h_13.cell ((⟨b5, 0, none⟩ : Addr).add 0)) fun x41_0 =>
 oI .i64 (h_13.cell ((⟨b5, 0, none⟩ : Addr).add 1)) fun x41_1 =>
 oI .i64 (h_13.cell ((⟨b5, 0, none⟩ : Addr).add 2)) fun x41_2 =>
 xEq Try.prog 86 (.agg #[(.int .i64 x41_0), (.int .i64 x41_1), (.int .i64 x41_2)]) (.agg #[(.int .i64 0), (.int .i64 0), (.int .i64 0)]) fun x43 =>
 J_6 (!x43) h_13)
 (fun r44 h_14 =>
 xSc r44 false (fun J_7 =>
 J_7 x25 h_14)
 (fun r47 h_15 =>
 xSc r47 false (fun J_8 =>
 Meets Try.prog 44 #[(.pointer x18)] h_15 fun v50 h_16 =>
 oP (some v50) fun x50 =>
 J_8 (!(Option.isNone x50)) h_16)
 (fun r52 h_17 =>
 xIte r52 (fun J_9 =>
 Q (.bool false) h_17)
 (fun J_9 =>
 J_9 h_17)
 (fun  (h_18 : PH) =>
 J_4 h_18)) h_15) h_14) h_13) h_10)
 (fun  (h_19 : PH) =>
 J_2 (IntKind.wrap .i64 (x15 + 1)) h_19)))) n 0 h_3)
 (fun  (h_20 : PH) =>
 Meets Try.prog 39 #[(.int .i64 1), (.int .i64 1), (.int .i64 1)] h_20 fun v55 h_21 =>
 oTup v55 2 fun x55cs =>
 oIx x55cs[0]? fun x55w =>
 oP (some x55w) fun x55_0 =>
 oIx x55cs[1]? fun x55w_1 =>
 oI .i64 (some x55w_1) fun x55_1 =>
 oP (some (.pointer x55_0)) fun x56 =>
 oI .i64 (some (.int .i64 x55_1)) fun x57 =>
 xSc (Option.isNone x56) false (fun J_10 =>
 J_10 (x57 != 0) h_21)
 (fun r63 h_22 =>
 xSc r63 false (fun J_11 =>
 Meets Try.prog 40 #[(.pointer x56), (.agg #[(.int .i64 1), (.int .i64 0), (.int .i64 0), (.int .i64 1), (.int .i64 0), (.int .i64 0), (.int .i64 0), (.int .i64 0), (.int .i64 0), (.int .i64 0), (.int .i64 0), (.int .i64 0), (.int .i64 0)])] h_22 fun v68 h_23 =>
 oI .i64 (some v68) fun x68 =>
 J_11 (x68 != 0) h_23)
 (fun r70 h_24 =>
 xIte r70 (fun J_12 =>
 Q (.bool false) h_24)
 (fun J_12 =>
 J_12 h_24)
 (fun  (h_25 : PH) =>
 Meets Try.prog 41 #[(.pointer x56)] h_25 fun v72 h_26 =>
 oS (some v72) fun x72a x72l x72c =>
 xIte (((x72l : Nat) : Int) != 1) (fun J_13 =>
 Q (.bool false) h_26)
 (fun J_13 =>
 J_13 h_26)
 (fun  (h_27 : PH) =>
 xIdx x72a x72l 0 13 fun x77 =>
 xSt 1 h_27 (x77.add 0) [(.int .i64 9)] fun h_28 =>
 Meets Try.prog 44 #[(.pointer x56)] h_28 fun v80 h_29 =>
 oP (some v80) fun x80 =>
 Meets Try.prog 14 #[(.pointer x80), (.agg #[(.int .i64 1), (.int .i64 0), (.int .i64 0), (.int .i64 0), (.int .i64 0)])] h_29 fun v82 h_30 =>
 oI .i64 (some v82) fun x82 =>
 Meets Try.prog 41 #[(.pointer x56)] h_30 fun v84 h_31 =>
 oS (some v84) fun x84a x84l x84c =>
 xSc (((x84l : Nat) : Int) == 1) true (fun J_14 =>
 xIdx x84a x84l 0 13 fun x90 =>
 oI .i64 (h_31.cell (x90.add 0)) fun x92 =>
 J_14 (x92 == 1) h_31)
 (fun r94 h_32 =>
 xSc r94 true (fun J_15 =>
 Meets Try.prog 44 #[(.pointer x56)] h_32 fun v97 h_33 =>
 oP (some v97) fun x97 =>
 Meets Try.prog 18 #[(.pointer x97), (.int .i64 0)] h_33 fun v98 h_34 =>
 oI .i64 (some v98) fun x98 =>
 J_15 (x98 == (-1)) h_34)
 (fun r100 h_35 =>
 xSc r100 true (fun J_16 =>
 Meets Try.prog 38 #[] h_35 fun v102 h_36 =>
 oB (some v102) fun x102 =>
 J_16 x102 h_36)
 (fun r103 h_37 =>
 Q (.bool r103) h_37) h_35) h_32) h_31))) h_22) h_21)
theorem P_law15_GhostNobody_eq (a0_0 : Int) (a0_1 : Int) (a0_2 : Int) (a0_3 : Int) (a0_4 : Int) (a0_5 : Int) (a0_6 : Int) (a0_7 : Int) (a0_8 : Int) (a0_9 : Int) (a0_10 : Int) (a0_11 : Int) (a0_12 : Int) (h : PH) (Q : Value → PH → Prop) : dFn Try.prog Try.f10 A_law15_GhostNobody #[(.agg #[(.int .i64 a0_0), (.int .i64 a0_1), (.int .i64 a0_2), (.int .i64 a0_3), (.int .i64 a0_4), (.int .i64 a0_5), (.int .i64 a0_6), (.int .i64 a0_7), (.int .i64 a0_8), (.int .i64 a0_9), (.int .i64 a0_10), (.int .i64 a0_11), (.int .i64 a0_12)])] h Q = P_law15_GhostNobody a0_0 a0_1 a0_2 a0_3 a0_4 a0_5 a0_6 a0_7 a0_8 a0_9 a0_10 a0_11 a0_12 h Q := by kernel_rfl
theorem P_law15_GhostNobody_of {a0_0 : Int} {a0_1 : Int} {a0_2 : Int} {a0_3 : Int} {a0_4 : Int} {a0_5 : Int} {a0_6 : Int} {a0_7 : Int} {a0_8 : Int} {a0_9 : Int} {a0_10 : Int} {a0_11 : Int} {a0_12 : Int} {h : PH} {Q : Value → PH → Prop} (x : P_law15_GhostNobody a0_0 a0_1 a0_2 a0_3 a0_4 a0_5 a0_6 a0_7 a0_8 a0_9 a0_10 a0_11 a0_12 h Q) : Meets Try.prog 10 #[(.agg #[(.int .i64 a0_0), (.int .i64 a0_1), (.int .i64 a0_2), (.int .i64 a0_3), (.int .i64 a0_4), (.int .i64 a0_5), (.int .i64 a0_6), (.int .i64 a0_7), (.int .i64 a0_8), (.int .i64 a0_9), (.int .i64 a0_10), (.int .i64 a0_11), (.int .i64 a0_12)])] h Q :=
  spec_of Try.func10 mix (by kernel_rfl) ((P_law15_GhostNobody_eq a0_0 a0_1 a0_2 a0_3 a0_4 a0_5 a0_6 a0_7 a0_8 a0_9 a0_10 a0_11 a0_12 h Q).symm ▸ x)
end Go.Proofs.Ytnnedfhpicdacaa
