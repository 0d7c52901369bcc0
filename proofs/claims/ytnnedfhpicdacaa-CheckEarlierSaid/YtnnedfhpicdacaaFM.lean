/- The readings of some functions, printed by a program of the session (wip/tools/sx.py): each by one equation that the kernel reckons. -/
import Derived.Test.YtnnedfhpicdacaaRows
import Derived.Test.YtnnedfhpicdacaaSx8
set_option linter.unusedVariables false
namespace Go.Proofs.Ytnnedfhpicdacaa
open Go Go.Sx Go.Proofs
theorem mix : Try.prog.follows .mixedOrders = true := Checked.mixed Try.checked
/-- futtock/model.in -/
def A_model_in : Ann := .seq (.leaf) (.seq (.leaf) (.leaf))
def P_model_in (a0 : Int) (a1 : Int) (a2 : Int) (h : PH) (Q : Value → PH → Prop) : Prop :=
 xSc (decide ((a1 : Int) ≤ a0)) true (fun J_1 =>
 J_1 (decide ((a0 : Int) ≤ a2)) h)
 (fun r14 h_1 =>
 Q (.bool r14) h_1) h
theorem P_model_in_eq (a0 : Int) (a1 : Int) (a2 : Int) (h : PH) (Q : Value → PH → Prop) : dFn Try.prog Try.f45 A_model_in #[(.int .i64 a0), (.int .i64 a1), (.int .i64 a2)] h Q = P_model_in a0 a1 a2 h Q := by kernel_rfl
theorem P_model_in_of {a0 : Int} {a1 : Int} {a2 : Int} {h : PH} {Q : Value → PH → Prop} (x : P_model_in a0 a1 a2 h Q) : Meets Try.prog 45 #[(.int .i64 a0), (.int .i64 a1), (.int .i64 a2)] h Q :=
  spec_of Try.func45 mix (by kernel_rfl) ((P_model_in_eq a0 a1 a2 h Q).symm ▸ x)
/-- (*futtock/model.Model).ok -/
def A_model_Model_ok : Ann := .seq (.leaf) (.seq (.leaf) (.leaf))
def P_model_Model_ok (a0 : Option Addr) (h : PH) (Q : Value → PH → Prop) : Prop :=
 xSc (!(Option.isNone a0)) true (fun J_1 =>
 xNn a0 fun x7 =>
 oM (h.cell (x7.add 3)) fun x9 =>
 J_1 (!(Option.isNone x9)) h)
 (fun r11 h_1 =>
 Q (.bool r11) h_1) h
theorem P_model_Model_ok_eq (a0 : Option Addr) (h : PH) (Q : Value → PH → Prop) : dFn Try.prog Try.f46 A_model_Model_ok #[(.pointer a0)] h Q = P_model_Model_ok a0 h Q := by kernel_rfl
theorem P_model_Model_ok_of {a0 : Option Addr} {h : PH} {Q : Value → PH → Prop} (x : P_model_Model_ok a0 h Q) : Meets Try.prog 46 #[(.pointer a0)] h Q :=
  spec_of Try.func46 mix (by kernel_rfl) ((P_model_Model_ok_eq a0 h Q).symm ▸ x)
/-- (*futtock/model.Model).isThread -/
def A_model_Model_isThread : Ann := .seq (.leaf) (.seq (.leaf) (.leaf))
def P_model_Model_isThread (a0 : Option Addr) (a1 : Int) (h : PH) (Q : Value → PH → Prop) : Prop :=
 xNn a0 fun x7 =>
 oS (h.cell (x7.add 2)) fun x9a x9l x9c =>
 Meets Try.prog 45 #[(.int .i64 a1), (.int .i64 0), (.int .i64 (IntKind.wrap .i64 (((x9l : Nat) : Int) - 1)))] h fun v12 h_1 =>
 oB (some v12) fun x12 =>
 Q (.bool x12) h_1
theorem P_model_Model_isThread_eq (a0 : Option Addr) (a1 : Int) (h : PH) (Q : Value → PH → Prop) : dFn Try.prog Try.f57 A_model_Model_isThread #[(.pointer a0), (.int .i64 a1)] h Q = P_model_Model_isThread a0 a1 h Q := by kernel_rfl
theorem P_model_Model_isThread_of {a0 : Option Addr} {a1 : Int} {h : PH} {Q : Value → PH → Prop} (x : P_model_Model_isThread a0 a1 h Q) : Meets Try.prog 57 #[(.pointer a0), (.int .i64 a1)] h Q :=
  spec_of Try.func57 mix (by kernel_rfl) ((P_model_Model_isThread_eq a0 a1 h Q).symm ▸ x)
/-- (*futtock/model.Model).owns -/
def A_model_Model_owns : Ann := .seq (.leaf) (.seq (.draw [(0, .flt), (1, .flt), (2, .flt), (3, .flt), (4, .flt), (5, .flt), (6, .flt), (7, .flt), (8, .flt), (9, .flt), (10, .flt), (11, .flt), (12, .flt)]) (.leaf))
def P_model_Model_owns (a0 : Option Addr) (a1_0 : Int) (a1_1 : Int) (a1_2 : Int) (a1_3 : Int) (a1_4 : Int) (h : PH) (Q : Value → PH → Prop) : Prop :=
 xNew h (.cells #[(.int .i64 a1_0), (.int .i64 a1_1), (.int .i64 a1_2), (.int .i64 a1_3), (.int .i64 a1_4)] 33 (0, 0)) fun b3 h_1 =>
 xDraw h_1 fun hs_1 =>
 xNn a0 fun x6 =>
 oS (hs_1.cell (x6.add 1)) fun x8a x8l x8c =>
 oI .i64 (hs_1.cell ((⟨b3, 0, none⟩ : Addr).add 2)) fun x10 =>
 xIdx x8a x8l x10 3 fun x11 =>
 oI .i64 (hs_1.cell (x11.add 0)) fun x13 =>
 oI .i64 (hs_1.cell ((⟨b3, 0, none⟩ : Addr).add 1)) fun x15 =>
 Q (.bool (x13 == x15)) h_1
theorem P_model_Model_owns_eq (a0 : Option Addr) (a1_0 : Int) (a1_1 : Int) (a1_2 : Int) (a1_3 : Int) (a1_4 : Int) (h : PH) (Q : Value → PH → Prop) : dFn Try.prog Try.f104 A_model_Model_owns #[(.pointer a0), (.agg #[(.int .i64 a1_0), (.int .i64 a1_1), (.int .i64 a1_2), (.int .i64 a1_3), (.int .i64 a1_4)])] h Q = P_model_Model_owns a0 a1_0 a1_1 a1_2 a1_3 a1_4 h Q := by kernel_rfl
theorem P_model_Model_owns_of {a0 : Option Addr} {a1_0 : Int} {a1_1 : Int} {a1_2 : Int} {a1_3 : Int} {a1_4 : Int} {h : PH} {Q : Value → PH → Prop} (x : P_model_Model_owns a0 a1_0 a1_1 a1_2 a1_3 a1_4 h Q) : Meets Try.prog 104 #[(.pointer a0), (.agg #[(.int .i64 a1_0), (.int .i64 a1_1), (.int .i64 a1_2), (.int .i64 a1_3), (.int .i64 a1_4)])] h Q :=
  spec_of Try.func104 mix (by kernel_rfl) ((P_model_Model_owns_eq a0 a1_0 a1_1 a1_2 a1_3 a1_4 h Q).symm ▸ x)
/-- (*futtock/model.Model).others -/
def A_model_Model_others : Ann := .seq (.leaf) (.seq (.draw [(0, .flt), (1, .flt), (2, .eff), (3, .flt), (4, .flt), (5, .flt), (6, .flt), (7, .flt), (8, .flt), (9, .flt), (10, .flt), (11, .flt), (12, .flt), (13, .flt), (14, .flt), (15, .flt), (16, .flt)]) (.leaf))
def P_model_Model_others (a0 : Option Addr) (a1_0 : Int) (a1_1 : Int) (a1_2 : Int) (a1_3 : Int) (a1_4 : Int) (h : PH) (Q : Value → PH → Prop) : Prop :=
 xNew h (.cells #[(.int .i64 a1_0), (.int .i64 a1_1), (.int .i64 a1_2), (.int .i64 a1_3), (.int .i64 a1_4)] 33 (0, 0)) fun b3 h_1 =>
 xDraw h_1 fun hs_1 =>
 oI .i64 (hs_1.cell ((⟨b3, 0, none⟩ : Addr).add 0)) fun x6_0 =>
 oI .i64 (hs_1.cell ((⟨b3, 0, none⟩ : Addr).add 1)) fun x6_1 =>
 oI .i64 (hs_1.cell ((⟨b3, 0, none⟩ : Addr).add 2)) fun x6_2 =>
 oI .i64 (hs_1.cell ((⟨b3, 0, none⟩ : Addr).add 3)) fun x6_3 =>
 oI .i64 (hs_1.cell ((⟨b3, 0, none⟩ : Addr).add 4)) fun x6_4 =>
 Meets Try.prog 104 #[(.pointer a0), (.agg #[(.int .i64 x6_0), (.int .i64 x6_1), (.int .i64 x6_2), (.int .i64 x6_3), (.int .i64 x6_4)])] h_1 fun v7 h_2 =>
 oB (some v7) fun x7 =>
 PH.le hs_1 h_2 ∧
 xSc (!x7) true (fun J_1 =>
 xNn a0 fun x11 =>
 oS (hs_1.cell (x11.add 1)) fun x13a x13l x13c =>
 oI .i64 (hs_1.cell ((⟨b3, 0, none⟩ : Addr).add 2)) fun x15 =>
 xIdx x13a x13l x15 3 fun x16 =>
 oI .i64 (hs_1.cell (x16.add 0)) fun x18 =>
 J_1 (x18 != (-1)) h_2)
 (fun r20 h_3 =>
 Q (.bool r20) h_3) h_2
theorem P_model_Model_others_eq (a0 : Option Addr) (a1_0 : Int) (a1_1 : Int) (a1_2 : Int) (a1_3 : Int) (a1_4 : Int) (h : PH) (Q : Value → PH → Prop) : dFn Try.prog Try.f103 A_model_Model_others #[(.pointer a0), (.agg #[(.int .i64 a1_0), (.int .i64 a1_1), (.int .i64 a1_2), (.int .i64 a1_3), (.int .i64 a1_4)])] h Q = P_model_Model_others a0 a1_0 a1_1 a1_2 a1_3 a1_4 h Q := by kernel_rfl
theorem P_model_Model_others_of {a0 : Option Addr} {a1_0 : Int} {a1_1 : Int} {a1_2 : Int} {a1_3 : Int} {a1_4 : Int} {h : PH} {Q : Value → PH → Prop} (x : P_model_Model_others a0 a1_0 a1_1 a1_2 a1_3 a1_4 h Q) : Meets Try.prog 103 #[(.pointer a0), (.agg #[(.int .i64 a1_0), (.int .i64 a1_1), (.int .i64 a1_2), (.int .i64 a1_3), (.int .i64 a1_4)])] h Q :=
  spec_of Try.func103 mix (by kernel_rfl) ((P_model_Model_others_eq a0 a1_0 a1_1 a1_2 a1_3 a1_4 h Q).symm ▸ x)
/-- (*futtock/model.Model).gone -/
def A_model_Model_gone : Ann := .seq (.leaf) (.seq (.seq (.leaf) (.block [] (.loop [(15, (.int .i64))] (.seq (.leaf) (.seq (.cond [] (.leaf) (.leaf)) (.seq (.block [] (.seq (.leaf) (.seq (.leaf) (.seq (.leaf) (.seq (.leaf) (.cond [] (.seq (.leaf) (.leaf)) (.leaf))))))) (.leaf))))))) (.seq (.leaf) (.leaf)))
def P_model_Model_gone (a0 : Option Addr) (a1 : Int) (h : PH) (Q : Value → PH → Prop) : Prop :=
 xNn a0 fun x11 =>
 oS (h.cell (x11.add 1)) fun x13a x13l x13c =>
 xBlk (fun J_1 =>
 ∃ n, xLoopN (fun _ _ => False) (fun J_2 =>
 (fun (x15 : Int) (h_1 : PH) =>
 xIte (decide ((x15 : Int) < ((x13l : Nat) : Int))) (fun J_3 =>
 J_3 h_1)
 (fun J_3 =>
 J_1 h_1)
 (fun  (h_2 : PH) =>
 xBlk (fun J_4 =>
 xNn a0 fun x20 =>
 oM (h_2.cell (x20.add 3)) fun x22 =>
 xLook Try.prog 122 h_2 x22 (.agg #[(.int .i64 x15), (.int .i64 a1)]) fun x26o =>
 oI .i64 (some (Option.getD x26o (.int .i64 0))) fun x26 =>
 oI .i64 (some (.int .i64 x26)) fun x27 =>
 oB (some (.bool (x26o).isSome)) fun x28 =>
 xNn a0 fun x31 =>
 oM (h_2.cell (x31.add 4)) fun x33 =>
 xLook Try.prog 122 h_2 x33 (.agg #[(.int .i64 x15), (.int .i64 a1)]) fun x37o =>
 oAgg (Option.getD x37o (.agg #[(.int .i64 0), (.int .i64 0)])) 2 fun x37cs =>
 oI .i64 x37cs[0]? fun x37_0 =>
 oI .i64 x37cs[1]? fun x37_1 =>
 oAgg (.agg #[(.int .i64 x37_0), (.int .i64 x37_1)]) 2 fun x38cs =>
 oI .i64 x38cs[0]? fun x38_0 =>
 oI .i64 x38cs[1]? fun x38_1 =>
 oB (some (.bool (x37o).isSome)) fun x39 =>
 xNew h_2 (.cells #[(.int .i64 0), (.int .i64 0)] 125 (0, 0)) fun b8 h_3 =>
 xSt 2 h_3 (⟨b8, 0, none⟩ : Addr) [(.int .i64 x38_0), (.int .i64 x38_1)] fun h_4 =>
 xSc x28 false (fun J_5 =>
 J_5 x39 h_4)
 (fun r43 h_5 =>
 xIte r43 (fun J_6 =>
 Q (.bool true) h_5)
 (fun J_6 =>
 J_6 h_5)
 (fun  (h_6 : PH) =>
 J_4 h_6)) h_4)
 (fun  (h_7 : PH) =>
 J_2 (IntKind.wrap .i64 (x15 + 1)) h_7)))) n 0 h)
 (fun  (h_8 : PH) =>
 Q (.bool false) h_8)
theorem P_model_Model_gone_eq (a0 : Option Addr) (a1 : Int) (h : PH) (Q : Value → PH → Prop) : dFn Try.prog Try.f76 A_model_Model_gone #[(.pointer a0), (.int .i64 a1)] h Q = P_model_Model_gone a0 a1 h Q := by kernel_rfl
theorem P_model_Model_gone_of {a0 : Option Addr} {a1 : Int} {h : PH} {Q : Value → PH → Prop} (x : P_model_Model_gone a0 a1 h Q) : Meets Try.prog 76 #[(.pointer a0), (.int .i64 a1)] h Q :=
  spec_of Try.func76 mix (by kernel_rfl) ((P_model_Model_gone_eq a0 a1 h Q).symm ▸ x)
/-- (*futtock/model.Model).may -/
def A_model_Model_may : Ann := .seq (.leaf) (.seq (.draw [(0, .flt), (1, .eff), (2, .flt), (3, .flt), (4, .flt), (5, .flt), (6, .eff), (7, .flt), (8, .flt), (9, .flt), (10, .flt), (11, .flt), (12, .flt), (13, .flt), (14, .flt), (15, .flt), (16, .flt), (17, .eff), (18, .flt), (19, .flt)]) (.seq (.leaf) (.leaf)))
def P_model_Model_may (a0 : Option Addr) (a1_0 : Int) (a1_1 : Int) (a1_2 : Int) (a1_3 : Int) (a1_4 : Int) (h : PH) (Q : Value → PH → Prop) : Prop :=
 xNew h (.cells #[(.int .i64 a1_0), (.int .i64 a1_1), (.int .i64 a1_2), (.int .i64 a1_3), (.int .i64 a1_4)] 33 (0, 0)) fun b3 h_1 =>
 xDraw h_1 fun hs_1 =>
 Meets Try.prog 46 #[(.pointer a0)] h_1 fun v7 h_2 =>
 oB (some v7) fun x7 =>
 PH.le hs_1 h_2 ∧
 xSc x7 true (fun J_1 =>
 oI .i64 (hs_1.cell ((⟨b3, 0, none⟩ : Addr).add 1)) fun x11 =>
 Meets Try.prog 57 #[(.pointer a0), (.int .i64 x11)] h_2 fun v12 h_3 =>
 oB (some v12) fun x12 =>
 PH.le hs_1 h_3 ∧
 J_1 x12 h_3)
 (fun r13 h_4 =>
 xSc r13 true (fun J_2 =>
 oI .i64 (hs_1.cell ((⟨b3, 0, none⟩ : Addr).add 2)) fun x16 =>
 xNn a0 fun x18 =>
 oS (hs_1.cell (x18.add 1)) fun x20a x20l x20c =>
 Meets Try.prog 45 #[(.int .i64 x16), (.int .i64 0), (.int .i64 (IntKind.wrap .i64 (((x20l : Nat) : Int) - 1)))] h_4 fun v23 h_5 =>
 oB (some v23) fun x23 =>
 PH.le hs_1 h_5 ∧
 J_2 x23 h_5)
 (fun r24 h_6 =>
 xSc r24 true (fun J_3 =>
 oI .i64 (h_6.cell ((⟨b3, 0, none⟩ : Addr).add 0)) fun x28 =>
 xSc (x28 == 5) false (fun J_4 =>
 oI .i64 (h_6.cell ((⟨b3, 0, none⟩ : Addr).add 0)) fun x32 =>
 J_4 (x32 == 6) h_6)
 (fun r34 h_7 =>
 xSc r34 false (fun J_5 =>
 oI .i64 (h_7.cell ((⟨b3, 0, none⟩ : Addr).add 1)) fun x38 =>
 Meets Try.prog 76 #[(.pointer a0), (.int .i64 x38)] h_7 fun v39 h_8 =>
 oB (some v39) fun x39 =>
 J_5 (!x39) h_8)
 (fun r41 h_9 =>
 J_3 r41 h_9) h_7) h_6)
 (fun r42 h_10 =>
 Q (.bool r42) h_10) h_6) h_4) h_2
theorem P_model_Model_may_eq (a0 : Option Addr) (a1_0 : Int) (a1_1 : Int) (a1_2 : Int) (a1_3 : Int) (a1_4 : Int) (h : PH) (Q : Value → PH → Prop) : dFn Try.prog Try.f51 A_model_Model_may #[(.pointer a0), (.agg #[(.int .i64 a1_0), (.int .i64 a1_1), (.int .i64 a1_2), (.int .i64 a1_3), (.int .i64 a1_4)])] h Q = P_model_Model_may a0 a1_0 a1_1 a1_2 a1_3 a1_4 h Q := by kernel_rfl
theorem P_model_Model_may_of {a0 : Option Addr} {a1_0 : Int} {a1_1 : Int} {a1_2 : Int} {a1_3 : Int} {a1_4 : Int} {h : PH} {Q : Value → PH → Prop} (x : P_model_Model_may a0 a1_0 a1_1 a1_2 a1_3 a1_4 h Q) : Meets Try.prog 51 #[(.pointer a0), (.agg #[(.int .i64 a1_0), (.int .i64 a1_1), (.int .i64 a1_2), (.int .i64 a1_3), (.int .i64 a1_4)])] h Q :=
  spec_of Try.func51 mix (by kernel_rfl) ((P_model_Model_may_eq a0 a1_0 a1_1 a1_2 a1_3 a1_4 h Q).symm ▸ x)
/-- (*futtock/model.Model).enter -/
def A_model_Model_enter : Ann := .seq (.leaf) (.seq (.draw [(0, .flt), (1, .flt), (2, .flt), (3, .flt), (4, .flt), (5, .flt), (6, .flt), (7, .flt)]) (.seq (.seq (.leaf) (.block [] (.seq (.leaf) (.cond [] (.seq (.seq (.draw [(0, .flt), (1, .flt), (2, .eff), (3, .flt), (4, .flt), (5, .flt), (6, .flt), (7, .flt), (8, .flt), (9, .flt), (10, .flt), (11, .flt), (12, .flt), (13, .flt)]) (.cond [] (.seq (.leaf) (.leaf)) (.leaf))) (.seq (.leaf) (.seq (.leaf) (.seq (.leaf) (.leaf))))) (.seq (.leaf) (.cond [] (.seq (.draw [(0, .flt), (1, .flt), (2, .eff), (3, .flt), (4, .flt), (5, .flt), (6, .flt), (7, .flt), (8, .flt), (9, .flt), (10, .flt), (11, .flt), (12, .flt), (13, .flt), (14, .flt)]) (.leaf)) (.seq (.leaf) (.cond [] (.seq (.leaf) (.leaf)) (.seq (.leaf) (.cond [] (.seq (.leaf) (.leaf)) (.leaf))))))))))) (.seq (.leaf) (.leaf))))
def P_model_Model_enter (a0 : Option Addr) (a1_0 : Int) (a1_1 : Int) (a1_2 : Int) (a1_3 : Int) (a1_4 : Int) (h : PH) (Q : Value → PH → Prop) : Prop :=
 xNew h (.cells #[(.int .i64 a1_0), (.int .i64 a1_1), (.int .i64 a1_2), (.int .i64 a1_3), (.int .i64 a1_4)] 33 (0, 0)) fun b3 h_1 =>
 xDraw h_1 fun hs_1 =>
 xNn a0 fun x7 =>
 oS (hs_1.cell (x7.add 1)) fun x9a x9l x9c =>
 oI .i64 (hs_1.cell ((⟨b3, 0, none⟩ : Addr).add 2)) fun x11 =>
 xIdx x9a x9l x11 3 fun x12 =>
 oI .i64 (h_1.cell ((⟨b3, 0, none⟩ : Addr).add 4)) fun x14 =>
 xBlk (fun J_1 =>
 xIte (x14 == 0) (fun J_2 =>
 xDraw h_1 fun hs_2 =>
 oI .i64 (hs_2.cell ((⟨b3, 0, none⟩ : Addr).add 0)) fun x18_0 =>
 oI .i64 (hs_2.cell ((⟨b3, 0, none⟩ : Addr).add 1)) fun x18_1 =>
 oI .i64 (hs_2.cell ((⟨b3, 0, none⟩ : Addr).add 2)) fun x18_2 =>
 oI .i64 (hs_2.cell ((⟨b3, 0, none⟩ : Addr).add 3)) fun x18_3 =>
 oI .i64 (hs_2.cell ((⟨b3, 0, none⟩ : Addr).add 4)) fun x18_4 =>
 Meets Try.prog 103 #[(.pointer a0), (.agg #[(.int .i64 x18_0), (.int .i64 x18_1), (.int .i64 x18_2), (.int .i64 x18_3), (.int .i64 x18_4)])] h_1 fun v19 h_2 =>
 oB (some v19) fun x19 =>
 PH.le hs_2 h_2 ∧
 xSc x19 false (fun J_3 =>
 xNn (some x12) fun x22 =>
 oI .i64 (hs_2.cell (x22.add 1)) fun x24 =>
 xNn a0 fun x26 =>
 oI .i64 (hs_2.cell (x26.add 0)) fun x28 =>
 J_3 (x24 == x28) h_2)
 (fun r30 h_3 =>
 xIte r30 (fun J_4 =>
 Q (.bool false) h_3)
 (fun J_4 =>
 J_4 h_3)
 (fun  (h_4 : PH) =>
 oI .i64 (h_4.cell ((⟨b3, 0, none⟩ : Addr).add 1)) fun x33 =>
 xNn (some x12) fun x34 =>
 xSt 1 h_4 (x34.add 0) [(.int .i64 x33)] fun h_5 =>
 xNn (some x12) fun x37 =>
 oI .i64 (h_5.cell (x37.add 1)) fun x39 =>
 xNn (some x12) fun x41 =>
 xSt 1 h_5 (x41.add 1) [(.int .i64 (IntKind.wrap .i64 (x39 + 1)))] fun h_6 =>
 Q (.bool true) h_6)) h_2)
 (fun J_2 =>
 xIte (x14 == 10) (fun J_5 =>
 xDraw h_1 fun hs_3 =>
 oI .i64 (hs_3.cell ((⟨b3, 0, none⟩ : Addr).add 0)) fun x46_0 =>
 oI .i64 (hs_3.cell ((⟨b3, 0, none⟩ : Addr).add 1)) fun x46_1 =>
 oI .i64 (hs_3.cell ((⟨b3, 0, none⟩ : Addr).add 2)) fun x46_2 =>
 oI .i64 (hs_3.cell ((⟨b3, 0, none⟩ : Addr).add 3)) fun x46_3 =>
 oI .i64 (hs_3.cell ((⟨b3, 0, none⟩ : Addr).add 4)) fun x46_4 =>
 Meets Try.prog 104 #[(.pointer a0), (.agg #[(.int .i64 x46_0), (.int .i64 x46_1), (.int .i64 x46_2), (.int .i64 x46_3), (.int .i64 x46_4)])] h_1 fun v47 h_7 =>
 oB (some v47) fun x47 =>
 PH.le hs_3 h_7 ∧
 xSc x47 true (fun J_6 =>
 xNn (some x12) fun x50 =>
 oI .i64 (hs_3.cell (x50.add 1)) fun x52 =>
 xNn a0 fun x54 =>
 oI .i64 (hs_3.cell (x54.add 0)) fun x56 =>
 J_6 (x52 == x56) h_7)
 (fun r58 h_8 =>
 Q (.bool r58) h_8) h_7)
 (fun J_5 =>
 xIte (x14 == 11) (fun J_7 =>
 oI .i64 (h_1.cell ((⟨b3, 0, none⟩ : Addr).add 0)) fun x62 =>
 xSc (x62 == 1) true (fun J_8 =>
 oI .i64 (h_1.cell ((⟨b3, 0, none⟩ : Addr).add 0)) fun x66_0 =>
 oI .i64 (h_1.cell ((⟨b3, 0, none⟩ : Addr).add 1)) fun x66_1 =>
 oI .i64 (h_1.cell ((⟨b3, 0, none⟩ : Addr).add 2)) fun x66_2 =>
 oI .i64 (h_1.cell ((⟨b3, 0, none⟩ : Addr).add 3)) fun x66_3 =>
 oI .i64 (h_1.cell ((⟨b3, 0, none⟩ : Addr).add 4)) fun x66_4 =>
 Meets Try.prog 103 #[(.pointer a0), (.agg #[(.int .i64 x66_0), (.int .i64 x66_1), (.int .i64 x66_2), (.int .i64 x66_3), (.int .i64 x66_4)])] h_1 fun v67 h_9 =>
 oB (some v67) fun x67 =>
 J_8 x67 h_9)
 (fun r68 h_10 =>
 Q (.bool r68) h_10) h_1)
 (fun J_7 =>
 xIte (x14 == 14) (fun J_9 =>
 oI .i64 (h_1.cell ((⟨b3, 0, none⟩ : Addr).add 0)) fun x72 =>
 xSc (x72 == 2) true (fun J_10 =>
 oI .i64 (h_1.cell ((⟨b3, 0, none⟩ : Addr).add 0)) fun x76_0 =>
 oI .i64 (h_1.cell ((⟨b3, 0, none⟩ : Addr).add 1)) fun x76_1 =>
 oI .i64 (h_1.cell ((⟨b3, 0, none⟩ : Addr).add 2)) fun x76_2 =>
 oI .i64 (h_1.cell ((⟨b3, 0, none⟩ : Addr).add 3)) fun x76_3 =>
 oI .i64 (h_1.cell ((⟨b3, 0, none⟩ : Addr).add 4)) fun x76_4 =>
 Meets Try.prog 103 #[(.pointer a0), (.agg #[(.int .i64 x76_0), (.int .i64 x76_1), (.int .i64 x76_2), (.int .i64 x76_3), (.int .i64 x76_4)])] h_1 fun v77 h_11 =>
 oB (some v77) fun x77 =>
 J_10 x77 h_11)
 (fun r78 h_12 =>
 Q (.bool r78) h_12) h_1)
 (fun J_9 =>
 J_9 h_1)
 (fun  (h_13 : PH) =>
 J_7 h_13))
 (fun  (h_14 : PH) =>
 J_5 h_14))
 (fun  (h_15 : PH) =>
 J_2 h_15))
 (fun  (h_16 : PH) =>
 J_1 h_16))
 (fun  (h_17 : PH) =>
 Q (.bool false) h_17)
theorem P_model_Model_enter_eq (a0 : Option Addr) (a1_0 : Int) (a1_1 : Int) (a1_2 : Int) (a1_3 : Int) (a1_4 : Int) (h : PH) (Q : Value → PH → Prop) : dFn Try.prog Try.f77 A_model_Model_enter #[(.pointer a0), (.agg #[(.int .i64 a1_0), (.int .i64 a1_1), (.int .i64 a1_2), (.int .i64 a1_3), (.int .i64 a1_4)])] h Q = P_model_Model_enter a0 a1_0 a1_1 a1_2 a1_3 a1_4 h Q := by kernel_rfl
theorem P_model_Model_enter_of {a0 : Option Addr} {a1_0 : Int} {a1_1 : Int} {a1_2 : Int} {a1_3 : Int} {a1_4 : Int} {h : PH} {Q : Value → PH → Prop} (x : P_model_Model_enter a0 a1_0 a1_1 a1_2 a1_3 a1_4 h Q) : Meets Try.prog 77 #[(.pointer a0), (.agg #[(.int .i64 a1_0), (.int .i64 a1_1), (.int .i64 a1_2), (.int .i64 a1_3), (.int .i64 a1_4)])] h Q :=
  spec_of Try.func77 mix (by kernel_rfl) ((P_model_Model_enter_eq a0 a1_0 a1_1 a1_2 a1_3 a1_4 h Q).symm ▸ x)
/-- (*futtock/model.Model).exit -/
def A_model_Model_exit : Ann := .seq (.leaf) (.seq (.draw [(0, .flt), (1, .flt), (2, .flt), (3, .flt), (4, .flt), (5, .flt), (6, .flt), (7, .flt)]) (.seq (.block [] (.seq (.leaf) (.cond [] (.seq (.leaf) (.leaf)) (.seq (.leaf) (.cond [] (.seq (.leaf) (.leaf)) (.leaf)))))) (.seq (.seq (.leaf) (.seq (.leaf) (.cond [] (.leaf) (.leaf)))) (.seq (.leaf) (.leaf)))))
def P_model_Model_exit (a0 : Option Addr) (a1_0 : Int) (a1_1 : Int) (a1_2 : Int) (a1_3 : Int) (a1_4 : Int) (h : PH) (Q : Value → PH → Prop) : Prop :=
 xNew h (.cells #[(.int .i64 a1_0), (.int .i64 a1_1), (.int .i64 a1_2), (.int .i64 a1_3), (.int .i64 a1_4)] 33 (0, 0)) fun b3 h_1 =>
 xDraw h_1 fun hs_1 =>
 xNn a0 fun x7 =>
 oS (hs_1.cell (x7.add 1)) fun x9a x9l x9c =>
 oI .i64 (hs_1.cell ((⟨b3, 0, none⟩ : Addr).add 2)) fun x11 =>
 xIdx x9a x9l x11 3 fun x12 =>
 xBlk (fun J_1 =>
 oI .i64 (h_1.cell ((⟨b3, 0, none⟩ : Addr).add 4)) fun x15 =>
 xIte (x15 == 9) (fun J_2 =>
 oI .i64 (h_1.cell ((⟨b3, 0, none⟩ : Addr).add 0)) fun x18_0 =>
 oI .i64 (h_1.cell ((⟨b3, 0, none⟩ : Addr).add 1)) fun x18_1 =>
 oI .i64 (h_1.cell ((⟨b3, 0, none⟩ : Addr).add 2)) fun x18_2 =>
 oI .i64 (h_1.cell ((⟨b3, 0, none⟩ : Addr).add 3)) fun x18_3 =>
 oI .i64 (h_1.cell ((⟨b3, 0, none⟩ : Addr).add 4)) fun x18_4 =>
 Meets Try.prog 104 #[(.pointer a0), (.agg #[(.int .i64 x18_0), (.int .i64 x18_1), (.int .i64 x18_2), (.int .i64 x18_3), (.int .i64 x18_4)])] h_1 fun v19 h_2 =>
 oB (some v19) fun x19 =>
 Q (.bool (!x19)) h_2)
 (fun J_2 =>
 oI .i64 (h_1.cell ((⟨b3, 0, none⟩ : Addr).add 4)) fun x23 =>
 xSc (x23 != 0) false (fun J_3 =>
 oI .i64 (h_1.cell ((⟨b3, 0, none⟩ : Addr).add 0)) fun x27_0 =>
 oI .i64 (h_1.cell ((⟨b3, 0, none⟩ : Addr).add 1)) fun x27_1 =>
 oI .i64 (h_1.cell ((⟨b3, 0, none⟩ : Addr).add 2)) fun x27_2 =>
 oI .i64 (h_1.cell ((⟨b3, 0, none⟩ : Addr).add 3)) fun x27_3 =>
 oI .i64 (h_1.cell ((⟨b3, 0, none⟩ : Addr).add 4)) fun x27_4 =>
 Meets Try.prog 104 #[(.pointer a0), (.agg #[(.int .i64 x27_0), (.int .i64 x27_1), (.int .i64 x27_2), (.int .i64 x27_3), (.int .i64 x27_4)])] h_1 fun v28 h_3 =>
 oB (some v28) fun x28 =>
 J_3 (!x28) h_3)
 (fun r30 h_4 =>
 xIte r30 (fun J_4 =>
 Q (.bool false) h_4)
 (fun J_4 =>
 J_4 h_4)
 (fun  (h_5 : PH) =>
 J_2 h_5)) h_1)
 (fun  (h_6 : PH) =>
 J_1 h_6))
 (fun  (h_7 : PH) =>
 xNn (some x12) fun x32 =>
 oI .i64 (h_7.cell (x32.add 1)) fun x34 =>
 xNn (some x12) fun x36 =>
 xSt 1 h_7 (x36.add 1) [(.int .i64 (IntKind.wrap .i64 (x34 - 1)))] fun h_8 =>
 xNn (some x12) fun x39 =>
 oI .i64 (h_8.cell (x39.add 1)) fun x41 =>
 xIte (x41 == 0) (fun J_5 =>
 xNn (some x12) fun x44 =>
 xSt 1 h_8 (x44.add 0) [(.int .i64 (-1))] fun h_9 =>
 J_5 h_9)
 (fun J_5 =>
 J_5 h_8)
 (fun  (h_10 : PH) =>
 Q (.bool true) h_10))
theorem P_model_Model_exit_eq (a0 : Option Addr) (a1_0 : Int) (a1_1 : Int) (a1_2 : Int) (a1_3 : Int) (a1_4 : Int) (h : PH) (Q : Value → PH → Prop) : dFn Try.prog Try.f78 A_model_Model_exit #[(.pointer a0), (.agg #[(.int .i64 a1_0), (.int .i64 a1_1), (.int .i64 a1_2), (.int .i64 a1_3), (.int .i64 a1_4)])] h Q = P_model_Model_exit a0 a1_0 a1_1 a1_2 a1_3 a1_4 h Q := by kernel_rfl
theorem P_model_Model_exit_of {a0 : Option Addr} {a1_0 : Int} {a1_1 : Int} {a1_2 : Int} {a1_3 : Int} {a1_4 : Int} {h : PH} {Q : Value → PH → Prop} (x : P_model_Model_exit a0 a1_0 a1_1 a1_2 a1_3 a1_4 h Q) : Meets Try.prog 78 #[(.pointer a0), (.agg #[(.int .i64 a1_0), (.int .i64 a1_1), (.int .i64 a1_2), (.int .i64 a1_3), (.int .i64 a1_4)])] h Q :=
  spec_of Try.func78 mix (by kernel_rfl) ((P_model_Model_exit_eq a0 a1_0 a1_1 a1_2 a1_3 a1_4 h Q).symm ▸ x)
/-- (*futtock/model.Model).begin -/
def A_model_Model_begin : Ann := .seq (.leaf) (.seq (.draw [(0, .flt), (1, .flt), (2, .flt), (3, .flt), (4, .flt), (5, .flt), (6, .flt), (7, .flt)]) (.seq (.draw [(0, .flt), (1, .flt), (3, .flt), (4, .flt), (5, .flt), (6, .flt), (7, .flt), (8, .flt), (9, .flt), (10, .flt), (2, .eff), (11, .flt), (12, .flt)]) (.seq (.seq (.leaf) (.block [] (.seq (.leaf) (.cond [] (.seq (.leaf) (.leaf)) (.seq (.leaf) (.cond [] (.seq (.leaf) (.leaf)) (.seq (.leaf) (.cond [] (.seq (.seq (.leaf) (.cond [] (.draw [(0, .flt), (1, .flt), (2, .flt), (3, .flt), (4, .flt), (5, .flt), (6, .flt), (7, .brk)]) (.leaf))) (.seq (.leaf) (.leaf))) (.seq (.leaf) (.cond [] (.seq (.seq (.leaf) (.cond [] (.seq (.leaf) (.leaf)) (.leaf))) (.seq (.draw [(0, .flt), (1, .flt), (2, .flt), (3, .flt), (4, .flt), (5, .flt), (6, .flt), (7, .flt), (8, .flt), (9, .flt), (10, .flt), (11, .flt), (12, .flt), (13, .brk)]) (.seq (.leaf) (.seq (.leaf) (.leaf))))) (.leaf))))))))))) (.seq (.leaf) (.leaf)))))
def P_model_Model_begin (a0 : Option Addr) (a1_0 : Int) (a1_1 : Int) (a1_2 : Int) (a1_3 : Int) (a1_4 : Int) (h : PH) (Q : Value → PH → Prop) : Prop :=
 xNew h (.cells #[(.int .i64 a1_0), (.int .i64 a1_1), (.int .i64 a1_2), (.int .i64 a1_3), (.int .i64 a1_4)] 33 (0, 0)) fun b3 h_1 =>
 xDraw h_1 fun hs_1 =>
 xNn a0 fun x9 =>
 oS (hs_1.cell (x9.add 1)) fun x11a x11l x11c =>
 oI .i64 (hs_1.cell ((⟨b3, 0, none⟩ : Addr).add 2)) fun x13 =>
 xIdx x11a x11l x13 3 fun x14 =>
 xDraw h_1 fun hs_2 =>
 oI .i64 (hs_2.cell ((⟨b3, 0, none⟩ : Addr).add 0)) fun x16_0 =>
 oI .i64 (hs_2.cell ((⟨b3, 0, none⟩ : Addr).add 1)) fun x16_1 =>
 oI .i64 (hs_2.cell ((⟨b3, 0, none⟩ : Addr).add 2)) fun x16_2 =>
 oI .i64 (hs_2.cell ((⟨b3, 0, none⟩ : Addr).add 3)) fun x16_3 =>
 oI .i64 (hs_2.cell ((⟨b3, 0, none⟩ : Addr).add 4)) fun x16_4 =>
 xNn a0 fun x19 =>
 oS (hs_2.cell (x19.add 2)) fun x21a x21l x21c =>
 oI .i64 (hs_2.cell ((⟨b3, 0, none⟩ : Addr).add 1)) fun x23 =>
 xIdx x21a x21l x23 1 fun x24 =>
 oB (hs_2.cell x24) fun x25 =>
 Meets Try.prog 104 #[(.pointer a0), (.agg #[(.int .i64 x16_0), (.int .i64 x16_1), (.int .i64 x16_2), (.int .i64 x16_3), (.int .i64 x16_4)])] h_1 fun v17 h_2 =>
 oB (some v17) fun x17 =>
 PH.le hs_2 h_2 ∧
 oI .i64 (h_2.cell ((⟨b3, 0, none⟩ : Addr).add 4)) fun x27 =>
 xBlk (fun J_1 =>
 xIte (x27 == 9) (fun J_2 =>
 Q (.bool (!x17)) h_2)
 (fun J_2 =>
 xIte (x27 == 11) (fun J_3 =>
 Q (.bool x17) h_2)
 (fun J_3 =>
 xIte (x27 == 12) (fun J_4 =>
 xSc x17 true (fun J_5 =>
 J_5 x25 h_2)
 (fun r40 h_3 =>
 xIte r40 (fun J_6 =>
 xDraw h_3 fun hs_3 =>
 xNn a0 fun x42 =>
 oS (hs_3.cell (x42.add 2)) fun x44a x44l x44c =>
 oI .i64 (hs_3.cell ((⟨b3, 0, none⟩ : Addr).add 1)) fun x46 =>
 xIdx x44a x44l x46 1 fun x47 =>
 xSt 1 h_3 x47 [(.bool false)] fun h_4 =>
 J_6 h_4)
 (fun J_6 =>
 J_6 h_3)
 (fun  (h_5 : PH) =>
 xSc x17 true (fun J_7 =>
 J_7 x25 h_5)
 (fun r51 h_6 =>
 Q (.bool r51) h_6) h_5)) h_2)
 (fun J_4 =>
 xIte (x27 == 0) (fun J_8 =>
 xIte (!x17) (fun J_9 =>
 Q (.bool false) h_2)
 (fun J_9 =>
 J_9 h_2)
 (fun  (h_7 : PH) =>
 xDraw h_7 fun hs_4 =>
 xNn a0 fun x57 =>
 oM (hs_4.cell (x57.add 3)) fun x59 =>
 oI .i64 (hs_4.cell ((⟨b3, 0, none⟩ : Addr).add 2)) fun x61 =>
 oI .i64 (hs_4.cell ((⟨b3, 0, none⟩ : Addr).add 1)) fun x63 =>
 xNn (some x14) fun x66 =>
 oI .i64 (hs_4.cell (x66.add 1)) fun x68 =>
 xPut Try.prog 122 h_7 x59 (.agg #[(.int .i64 x61), (.int .i64 x63)]) (.int .i64 x68) fun h_8 =>
 xNn (some x14) fun x71 =>
 oI .i64 (h_8.cell (x71.add 2)) fun x73 =>
 xNn (some x14) fun x75 =>
 xSt 3 h_8 x75 [(.int .i64 (-1)), (.int .i64 0), (.int .i64 x73)] fun h_9 =>
 Q (.bool true) h_9))
 (fun J_8 =>
 J_8 h_2)
 (fun  (h_10 : PH) =>
 J_4 h_10))
 (fun  (h_11 : PH) =>
 J_3 h_11))
 (fun  (h_12 : PH) =>
 J_2 h_12))
 (fun  (h_13 : PH) =>
 J_1 h_13))
 (fun  (h_14 : PH) =>
 Q (.bool false) h_14)
theorem P_model_Model_begin_eq (a0 : Option Addr) (a1_0 : Int) (a1_1 : Int) (a1_2 : Int) (a1_3 : Int) (a1_4 : Int) (h : PH) (Q : Value → PH → Prop) : dFn Try.prog Try.f79 A_model_Model_begin #[(.pointer a0), (.agg #[(.int .i64 a1_0), (.int .i64 a1_1), (.int .i64 a1_2), (.int .i64 a1_3), (.int .i64 a1_4)])] h Q = P_model_Model_begin a0 a1_0 a1_1 a1_2 a1_3 a1_4 h Q := by kernel_rfl
theorem P_model_Model_begin_of {a0 : Option Addr} {a1_0 : Int} {a1_1 : Int} {a1_2 : Int} {a1_3 : Int} {a1_4 : Int} {h : PH} {Q : Value → PH → Prop} (x : P_model_Model_begin a0 a1_0 a1_1 a1_2 a1_3 a1_4 h Q) : Meets Try.prog 79 #[(.pointer a0), (.agg #[(.int .i64 a1_0), (.int .i64 a1_1), (.int .i64 a1_2), (.int .i64 a1_3), (.int .i64 a1_4)])] h Q :=
  spec_of Try.func79 mix (by kernel_rfl) ((P_model_Model_begin_eq a0 a1_0 a1_1 a1_2 a1_3 a1_4 h Q).symm ▸ x)
/-- (*futtock/model.Model).leave -/
def A_model_Model_leave : Ann := .seq (.leaf) (.seq (.draw [(0, .flt), (1, .flt), (2, .flt), (3, .flt), (4, .flt), (5, .flt), (6, .flt), (7, .flt), (8, .flt), (9, .flt), (10, .flt)]) (.seq (.seq (.leaf) (.cond [] (.seq (.leaf) (.leaf)) (.leaf))) (.seq (.draw [(0, .flt), (1, .flt), (2, .flt), (3, .flt), (4, .flt), (5, .eff)]) (.seq (.draw [(0, .flt), (1, .flt), (2, .flt), (3, .flt), (4, .flt), (5, .flt), (6, .flt), (7, .flt), (8, .brk)]) (.seq (.leaf) (.leaf))))))
def P_model_Model_leave (a0 : Option Addr) (a1_0 : Int) (a1_1 : Int) (a2 : Int) (h : PH) (Q : Value → PH → Prop) : Prop :=
 xNew h (.cells #[(.int .i64 a1_0), (.int .i64 a1_1)] 122 (0, 0)) fun b4 h_1 =>
 xDraw h_1 fun hs_1 =>
 xNn a0 fun x11 =>
 oM (hs_1.cell (x11.add 3)) fun x13 =>
 oI .i64 (hs_1.cell ((⟨b4, 0, none⟩ : Addr).add 0)) fun x14_0 =>
 oI .i64 (hs_1.cell ((⟨b4, 0, none⟩ : Addr).add 1)) fun x14_1 =>
 xLook Try.prog 122 hs_1 x13 (.agg #[(.int .i64 x14_0), (.int .i64 x14_1)]) fun x15o =>
 oI .i64 (some (Option.getD x15o (.int .i64 0))) fun x15 =>
 oI .i64 (some (.int .i64 x15)) fun x16 =>
 oB (some (.bool (x15o).isSome)) fun x17 =>
 xIte (!x17) (fun J_1 =>
 Q (.bool false) h_1)
 (fun J_1 =>
 J_1 h_1)
 (fun  (h_2 : PH) =>
 xDraw h_2 fun hs_2 =>
 xNn a0 fun x21 =>
 oM (hs_2.cell (x21.add 3)) fun x23 =>
 oI .i64 (hs_2.cell ((⟨b4, 0, none⟩ : Addr).add 0)) fun x24_0 =>
 oI .i64 (hs_2.cell ((⟨b4, 0, none⟩ : Addr).add 1)) fun x24_1 =>
 xDel Try.prog 122 h_2 x23 (.agg #[(.int .i64 x24_0), (.int .i64 x24_1)]) fun h_3 =>
 PH.le hs_2 h_3 ∧
 xDraw h_3 fun hs_3 =>
 xNn a0 fun x26 =>
 oM (hs_3.cell (x26.add 4)) fun x28 =>
 oI .i64 (hs_3.cell ((⟨b4, 0, none⟩ : Addr).add 0)) fun x29_0 =>
 oI .i64 (hs_3.cell ((⟨b4, 0, none⟩ : Addr).add 1)) fun x29_1 =>
 xPut Try.prog 122 h_3 x28 (.agg #[(.int .i64 x29_0), (.int .i64 x29_1)]) (.agg #[(.int .i64 x16), (.int .i64 a2)]) fun h_4 =>
 Q (.bool true) h_4)
theorem P_model_Model_leave_eq (a0 : Option Addr) (a1_0 : Int) (a1_1 : Int) (a2 : Int) (h : PH) (Q : Value → PH → Prop) : dFn Try.prog Try.f80 A_model_Model_leave #[(.pointer a0), (.agg #[(.int .i64 a1_0), (.int .i64 a1_1)]), (.int .i64 a2)] h Q = P_model_Model_leave a0 a1_0 a1_1 a2 h Q := by kernel_rfl
theorem P_model_Model_leave_of {a0 : Option Addr} {a1_0 : Int} {a1_1 : Int} {a2 : Int} {h : PH} {Q : Value → PH → Prop} (x : P_model_Model_leave a0 a1_0 a1_1 a2 h Q) : Meets Try.prog 80 #[(.pointer a0), (.agg #[(.int .i64 a1_0), (.int .i64 a1_1)]), (.int .i64 a2)] h Q :=
  spec_of Try.func80 mix (by kernel_rfl) ((P_model_Model_leave_eq a0 a1_0 a1_1 a2 h Q).symm ▸ x)
/-- (*futtock/model.Model).end -/
def A_model_Model_end : Ann := .seq (.leaf) (.seq (.draw [(0, .flt), (1, .flt), (2, .flt), (3, .flt), (4, .flt), (5, .flt), (6, .flt), (7, .flt)]) (.seq (.leaf) (.seq (.draw [(0, .flt), (1, .flt), (2, .flt), (3, .flt), (4, .flt), (5, .flt), (6, .flt), (7, .flt), (8, .flt), (9, .eff), (10, .eff), (11, .flt)]) (.seq (.seq (.leaf) (.cond [] (.seq (.leaf) (.leaf)) (.leaf))) (.seq (.draw [(0, .flt), (1, .flt), (2, .flt), (3, .flt), (4, .flt), (5, .eff)]) (.seq (.draw [(0, .flt), (1, .flt), (2, .flt), (3, .flt), (4, .flt), (5, .flt), (6, .flt), (7, .flt), (8, .eff), (9, .brk), (10, .brk), (11, .brk)]) (.seq (.seq (.leaf) (.cond [] (.draw [(0, .flt), (1, .flt), (2, .flt), (3, .flt), (4, .flt), (5, .flt), (6, .flt), (7, .brk)]) (.leaf))) (.seq (.leaf) (.leaf)))))))))
def P_model_Model_end (a0 : Option Addr) (a1_0 : Int) (a1_1 : Int) (a1_2 : Int) (a1_3 : Int) (a1_4 : Int) (h : PH) (Q : Value → PH → Prop) : Prop :=
 xNew h (.cells #[(.int .i64 a1_0), (.int .i64 a1_1), (.int .i64 a1_2), (.int .i64 a1_3), (.int .i64 a1_4)] 33 (0, 0)) fun b3 h_1 =>
 xDraw h_1 fun hs_1 =>
 xNn a0 fun x10 =>
 oS (hs_1.cell (x10.add 1)) fun x12a x12l x12c =>
 oI .i64 (hs_1.cell ((⟨b3, 0, none⟩ : Addr).add 2)) fun x14 =>
 xIdx x12a x12l x14 3 fun x15 =>
 oI .i64 (h_1.cell ((⟨b3, 0, none⟩ : Addr).add 2)) fun x17 =>
 oI .i64 (h_1.cell ((⟨b3, 0, none⟩ : Addr).add 1)) fun x19 =>
 xNew h_1 (.cells #[(.int .i64 0), (.int .i64 0)] 122 (0, 0)) fun b6 h_2 =>
 xSt 2 h_2 (⟨b6, 0, none⟩ : Addr) [(.int .i64 x17), (.int .i64 x19)] fun h_3 =>
 xDraw h_3 fun hs_2 =>
 xNn a0 fun x23 =>
 oM (hs_2.cell (x23.add 4)) fun x25 =>
 oI .i64 (hs_2.cell ((⟨b6, 0, none⟩ : Addr).add 0)) fun x26_0 =>
 oI .i64 (hs_2.cell ((⟨b6, 0, none⟩ : Addr).add 1)) fun x26_1 =>
 xLook Try.prog 122 hs_2 x25 (.agg #[(.int .i64 x26_0), (.int .i64 x26_1)]) fun x27o =>
 oAgg (Option.getD x27o (.agg #[(.int .i64 0), (.int .i64 0)])) 2 fun x27cs =>
 oI .i64 x27cs[0]? fun x27_0 =>
 oI .i64 x27cs[1]? fun x27_1 =>
 oAgg (.agg #[(.int .i64 x27_0), (.int .i64 x27_1)]) 2 fun x28cs =>
 oI .i64 x28cs[0]? fun x28_0 =>
 oI .i64 x28cs[1]? fun x28_1 =>
 oB (some (.bool (x27o).isSome)) fun x29 =>
 xNew h_3 (.cells #[(.int .i64 0), (.int .i64 0)] 125 (0, 0)) fun b7 h_4 =>
 PH.le hs_2 h_4 ∧
 xSt 2 h_4 (⟨b7, 0, none⟩ : Addr) [(.int .i64 x28_0), (.int .i64 x28_1)] fun h_5 =>
 PH.le hs_2 h_5 ∧
 xSc (!x29) false (fun J_1 =>
 xNn (some x15) fun x34 =>
 oI .i64 (h_5.cell (x34.add 0)) fun x36 =>
 J_1 (x36 != (-1)) h_5)
 (fun r38 h_6 =>
 xSc r38 false (fun J_2 =>
 oI .i64 (h_6.cell ((⟨b7, 0, none⟩ : Addr).add 1)) fun x41 =>
 oI .i64 (h_6.cell ((⟨b3, 0, none⟩ : Addr).add 4)) fun x43 =>
 J_2 (x41 != x43) h_6)
 (fun r45 h_7 =>
 xIte r45 (fun J_3 =>
 Q (.bool false) h_7)
 (fun J_3 =>
 J_3 h_7)
 (fun  (h_8 : PH) =>
 xDraw h_8 fun hs_3 =>
 xNn a0 fun x47 =>
 oM (hs_3.cell (x47.add 4)) fun x49 =>
 oI .i64 (hs_3.cell ((⟨b6, 0, none⟩ : Addr).add 0)) fun x50_0 =>
 oI .i64 (hs_3.cell ((⟨b6, 0, none⟩ : Addr).add 1)) fun x50_1 =>
 xDel Try.prog 122 h_8 x49 (.agg #[(.int .i64 x50_0), (.int .i64 x50_1)]) fun h_9 =>
 PH.le hs_3 h_9 ∧
 xDraw h_9 fun hs_4 =>
 oI .i64 (hs_4.cell ((⟨b3, 0, none⟩ : Addr).add 1)) fun x54 =>
 oI .i64 (hs_4.cell ((⟨b7, 0, none⟩ : Addr).add 0)) fun x56 =>
 xNn (some x15) fun x57 =>
 xSt 1 h_9 (x57.add 0) [(.int .i64 x54)] fun h_10 =>
 PH.le hs_4 h_10 ∧
 xNn (some x15) fun x59 =>
 xSt 1 h_10 (x59.add 1) [(.int .i64 x56)] fun h_11 =>
 oI .i64 (h_11.cell ((⟨b3, 0, none⟩ : Addr).add 4)) fun x62 =>
 xIte (x62 == 12) (fun J_4 =>
 xDraw h_11 fun hs_5 =>
 xNn a0 fun x65 =>
 oS (hs_5.cell (x65.add 2)) fun x67a x67l x67c =>
 oI .i64 (hs_5.cell ((⟨b3, 0, none⟩ : Addr).add 1)) fun x69 =>
 xIdx x67a x67l x69 1 fun x70 =>
 xSt 1 h_11 x70 [(.bool false)] fun h_12 =>
 J_4 h_12)
 (fun J_4 =>
 J_4 h_11)
 (fun  (h_13 : PH) =>
 Q (.bool true) h_13))) h_6) h_5
theorem P_model_Model_end_eq (a0 : Option Addr) (a1_0 : Int) (a1_1 : Int) (a1_2 : Int) (a1_3 : Int) (a1_4 : Int) (h : PH) (Q : Value → PH → Prop) : dFn Try.prog Try.f81 A_model_Model_end #[(.pointer a0), (.agg #[(.int .i64 a1_0), (.int .i64 a1_1), (.int .i64 a1_2), (.int .i64 a1_3), (.int .i64 a1_4)])] h Q = P_model_Model_end a0 a1_0 a1_1 a1_2 a1_3 a1_4 h Q := by kernel_rfl
theorem P_model_Model_end_of {a0 : Option Addr} {a1_0 : Int} {a1_1 : Int} {a1_2 : Int} {a1_3 : Int} {a1_4 : Int} {h : PH} {Q : Value → PH → Prop} (x : P_model_Model_end a0 a1_0 a1_1 a1_2 a1_3 a1_4 h Q) : Meets Try.prog 81 #[(.pointer a0), (.agg #[(.int .i64 a1_0), (.int .i64 a1_1), (.int .i64 a1_2), (.int .i64 a1_3), (.int .i64 a1_4)])] h Q :=
  spec_of Try.func81 mix (by kernel_rfl) ((P_model_Model_end_eq a0 a1_0 a1_1 a1_2 a1_3 a1_4 h Q).symm ▸ x)
/-- (*futtock/model.Model).tell -/
def A_model_Model_tell : Ann := .seq (.leaf) (.seq (.leaf) (.seq (.leaf) (.seq (.block [] (.seq (.leaf) (.cond [] (.seq (.leaf) (.leaf)) (.seq (.leaf) (.cond [] (.seq (.leaf) (.leaf)) (.seq (.leaf) (.cond [] (.seq (.leaf) (.leaf)) (.seq (.leaf) (.cond [] (.seq (.leaf) (.leaf)) (.leaf)))))))))) (.seq (.leaf) (.leaf)))))
def P_model_Model_tell (a0 : Option Addr) (a1_0 : Int) (a1_1 : Int) (a1_2 : Int) (a1_3 : Int) (a1_4 : Int) (h : PH) (Q : Value → PH → Prop) : Prop :=
 xNew h (.cells #[(.int .i64 a1_0), (.int .i64 a1_1), (.int .i64 a1_2), (.int .i64 a1_3), (.int .i64 a1_4)] 33 (0, 0)) fun b3 h_1 =>
 oI .i64 (h_1.cell ((⟨b3, 0, none⟩ : Addr).add 0)) fun x8_0 =>
 oI .i64 (h_1.cell ((⟨b3, 0, none⟩ : Addr).add 1)) fun x8_1 =>
 oI .i64 (h_1.cell ((⟨b3, 0, none⟩ : Addr).add 2)) fun x8_2 =>
 oI .i64 (h_1.cell ((⟨b3, 0, none⟩ : Addr).add 3)) fun x8_3 =>
 oI .i64 (h_1.cell ((⟨b3, 0, none⟩ : Addr).add 4)) fun x8_4 =>
 Meets Try.prog 104 #[(.pointer a0), (.agg #[(.int .i64 x8_0), (.int .i64 x8_1), (.int .i64 x8_2), (.int .i64 x8_3), (.int .i64 x8_4)])] h_1 fun v9 h_2 =>
 oB (some v9) fun x9 =>
 oI .i64 (h_2.cell ((⟨b3, 0, none⟩ : Addr).add 2)) fun x12 =>
 Meets Try.prog 22 #[(.pointer a0), (.int .i64 x12)] h_2 fun v13 h_3 =>
 oS (some v13) fun x13a x13l x13c =>
 xBlk (fun J_1 =>
 oI .i64 (h_3.cell ((⟨b3, 0, none⟩ : Addr).add 0)) fun x18 =>
 xIte (x18 == 7) (fun J_2 =>
 oI .i64 (h_3.cell ((⟨b3, 0, none⟩ : Addr).add 4)) fun x21 =>
 xSc (x21 == 0) true (fun J_3 =>
 J_3 x9 h_3)
 (fun r25 h_4 =>
 xSc r25 true (fun J_4 =>
 oI .i64 (h_4.cell ((⟨b3, 0, none⟩ : Addr).add 2)) fun x29 =>
 oI .i64 (h_4.cell ((⟨b3, 0, none⟩ : Addr).add 3)) fun x31 =>
 Meets Try.prog 80 #[(.pointer a0), (.agg #[(.int .i64 x29), (.int .i64 x31)]), (.int .i64 0)] h_4 fun v33 h_5 =>
 oB (some v33) fun x33 =>
 J_4 x33 h_5)
 (fun r34 h_6 =>
 Q (.bool r34) h_6) h_4) h_3)
 (fun J_2 =>
 oI .i64 (h_3.cell ((⟨b3, 0, none⟩ : Addr).add 4)) fun x37 =>
 xIte (x37 == 9) (fun J_5 =>
 xSc (!x9) true (fun J_6 =>
 oI .i64 (h_3.cell ((⟨b3, 0, none⟩ : Addr).add 0)) fun x43 =>
 xSc (x43 == 9) true (fun J_7 =>
 oI .i64 (h_3.cell ((⟨b3, 0, none⟩ : Addr).add 3)) fun x47 =>
 J_7 (x47 == 0) h_3)
 (fun r49 h_7 =>
 xSc r49 false (fun J_8 =>
 oI .i64 (h_7.cell ((⟨b3, 0, none⟩ : Addr).add 0)) fun x52 =>
 xSc (x52 == 8) true (fun J_9 =>
 oI .i64 (h_7.cell ((⟨b3, 0, none⟩ : Addr).add 3)) fun x56 =>
 J_9 (x56 == (-1)) h_7)
 (fun r58 h_8 =>
 J_8 r58 h_8) h_7)
 (fun r59 h_9 =>
 J_6 r59 h_9) h_7) h_3)
 (fun r60 h_10 =>
 Q (.bool r60) h_10) h_3)
 (fun J_5 =>
 oI .i64 (h_3.cell ((⟨b3, 0, none⟩ : Addr).add 4)) fun x63 =>
 xSc (x63 != 0) false (fun J_10 =>
 J_10 (!x9) h_3)
 (fun r68 h_11 =>
 xIte r68 (fun J_11 =>
 Q (.bool false) h_11)
 (fun J_11 =>
 oI .i64 (h_11.cell ((⟨b3, 0, none⟩ : Addr).add 0)) fun x71 =>
 xIte (x71 == 9) (fun J_12 =>
 oI .i64 (h_11.cell ((⟨b3, 0, none⟩ : Addr).add 3)) fun x74 =>
 xSc (x74 == 0) true (fun J_13 =>
 J_13 (((x13l : Nat) : Int) == 0) h_11)
 (fun r78 h_12 =>
 Q (.bool r78) h_12) h_11)
 (fun J_12 =>
 J_12 h_11)
 (fun  (h_13 : PH) =>
 J_11 h_13))
 (fun  (h_14 : PH) =>
 J_5 h_14)) h_3)
 (fun  (h_15 : PH) =>
 J_2 h_15))
 (fun  (h_16 : PH) =>
 J_1 h_16))
 (fun  (h_17 : PH) =>
 oI .i64 (h_17.cell ((⟨b3, 0, none⟩ : Addr).add 3)) fun x81 =>
 Meets Try.prog 57 #[(.pointer a0), (.int .i64 x81)] h_17 fun v82 h_18 =>
 oB (some v82) fun x82 =>
 xSc x82 false (fun J_14 =>
 oI .i64 (h_18.cell ((⟨b3, 0, none⟩ : Addr).add 3)) fun x85 =>
 xSc (x85 == (-1)) true (fun J_15 =>
 J_15 (((x13l : Nat) : Int) == 0) h_18)
 (fun r89 h_19 =>
 J_14 r89 h_19) h_18)
 (fun r90 h_20 =>
 Q (.bool r90) h_20) h_18)
theorem P_model_Model_tell_eq (a0 : Option Addr) (a1_0 : Int) (a1_1 : Int) (a1_2 : Int) (a1_3 : Int) (a1_4 : Int) (h : PH) (Q : Value → PH → Prop) : dFn Try.prog Try.f82 A_model_Model_tell #[(.pointer a0), (.agg #[(.int .i64 a1_0), (.int .i64 a1_1), (.int .i64 a1_2), (.int .i64 a1_3), (.int .i64 a1_4)])] h Q = P_model_Model_tell a0 a1_0 a1_1 a1_2 a1_3 a1_4 h Q := by kernel_rfl
theorem P_model_Model_tell_of {a0 : Option Addr} {a1_0 : Int} {a1_1 : Int} {a1_2 : Int} {a1_3 : Int} {a1_4 : Int} {h : PH} {Q : Value → PH → Prop} (x : P_model_Model_tell a0 a1_0 a1_1 a1_2 a1_3 a1_4 h Q) : Meets Try.prog 82 #[(.pointer a0), (.agg #[(.int .i64 a1_0), (.int .i64 a1_1), (.int .i64 a1_2), (.int .i64 a1_3), (.int .i64 a1_4)])] h Q :=
  spec_of Try.func82 mix (by kernel_rfl) ((P_model_Model_tell_eq a0 a1_0 a1_1 a1_2 a1_3 a1_4 h Q).symm ▸ x)
/-- (*futtock/model.Model).hash -/
def A_model_Model_hash : Ann := .seq (.leaf) (.seq (.draw [(0, .flt), (1, .flt), (2, .flt), (3, .flt), (4, .flt), (5, .flt), (6, .flt), (7, .flt)]) (.seq (.block [] (.seq (.leaf) (.cond [] (.seq (.leaf) (.leaf)) (.seq (.draw [(0, .flt), (1, .flt), (2, .flt), (3, .flt), (4, .flt), (5, .flt), (6, .eff), (7, .flt), (8, .flt), (9, .flt), (10, .flt), (11, .flt), (12, .flt), (13, .flt), (14, .flt), (15, .flt), (16, .flt), (17, .flt), (18, .flt), (19, .flt), (20, .flt), (21, .flt), (22, .flt), (23, .flt), (24, .flt), (25, .flt)]) (.cond [] (.seq (.leaf) (.leaf)) (.leaf)))))) (.seq (.leaf) (.seq (.leaf) (.leaf)))))
def P_model_Model_hash (a0 : Option Addr) (a1_0 : Int) (a1_1 : Int) (a1_2 : Int) (a1_3 : Int) (a1_4 : Int) (h : PH) (Q : Value → PH → Prop) : Prop :=
 xNew h (.cells #[(.int .i64 a1_0), (.int .i64 a1_1), (.int .i64 a1_2), (.int .i64 a1_3), (.int .i64 a1_4)] 33 (0, 0)) fun b3 h_1 =>
 xDraw h_1 fun hs_1 =>
 xNn a0 fun x7 =>
 oS (hs_1.cell (x7.add 1)) fun x9a x9l x9c =>
 oI .i64 (hs_1.cell ((⟨b3, 0, none⟩ : Addr).add 2)) fun x11 =>
 xIdx x9a x9l x11 3 fun x12 =>
 xBlk (fun J_1 =>
 oI .i64 (h_1.cell ((⟨b3, 0, none⟩ : Addr).add 4)) fun x15 =>
 xIte (x15 == 11) (fun J_2 =>
 oI .i64 (h_1.cell ((⟨b3, 0, none⟩ : Addr).add 3)) fun x18 =>
 xSc (x18 == 0) true (fun J_3 =>
 xNn (some x12) fun x22 =>
 oI .i64 (h_1.cell (x22.add 0)) fun x24 =>
 J_3 (x24 != (-1)) h_1)
 (fun r26 h_2 =>
 Q (.bool r26) h_2) h_1)
 (fun J_2 =>
 xDraw h_1 fun hs_2 =>
 oI .i64 (hs_2.cell ((⟨b3, 0, none⟩ : Addr).add 4)) fun x29 =>
 xSc (x29 != 0) false (fun J_4 =>
 oI .i64 (hs_2.cell ((⟨b3, 0, none⟩ : Addr).add 3)) fun x33 =>
 Meets Try.prog 45 #[(.int .i64 x33), (.int .i64 1), (.int .i64 2147483647)] h_1 fun v34 h_3 =>
 oB (some v34) fun x34 =>
 PH.le hs_2 h_3 ∧
 J_4 (!x34) h_3)
 (fun r36 h_4 =>
 xSc r36 false (fun J_5 =>
 xNn (some x12) fun x39 =>
 oI .i64 (hs_2.cell (x39.add 2)) fun x41 =>
 xSc (x41 != 0) true (fun J_6 =>
 xNn (some x12) fun x45 =>
 oI .i64 (hs_2.cell (x45.add 2)) fun x47 =>
 oI .i64 (hs_2.cell ((⟨b3, 0, none⟩ : Addr).add 3)) fun x49 =>
 J_6 (x47 != x49) h_4)
 (fun r51 h_5 =>
 J_5 r51 h_5) h_4)
 (fun r52 h_6 =>
 xIte r52 (fun J_7 =>
 Q (.bool false) h_6)
 (fun J_7 =>
 J_7 h_6)
 (fun  (h_7 : PH) =>
 J_2 h_7)) h_4) h_1)
 (fun  (h_8 : PH) =>
 J_1 h_8))
 (fun  (h_9 : PH) =>
 oI .i64 (h_9.cell ((⟨b3, 0, none⟩ : Addr).add 3)) fun x55 =>
 xNn (some x12) fun x56 =>
 xSt 1 h_9 (x56.add 2) [(.int .i64 x55)] fun h_10 =>
 Q (.bool true) h_10)
theorem P_model_Model_hash_eq (a0 : Option Addr) (a1_0 : Int) (a1_1 : Int) (a1_2 : Int) (a1_3 : Int) (a1_4 : Int) (h : PH) (Q : Value → PH → Prop) : dFn Try.prog Try.f83 A_model_Model_hash #[(.pointer a0), (.agg #[(.int .i64 a1_0), (.int .i64 a1_1), (.int .i64 a1_2), (.int .i64 a1_3), (.int .i64 a1_4)])] h Q = P_model_Model_hash a0 a1_0 a1_1 a1_2 a1_3 a1_4 h Q := by kernel_rfl
theorem P_model_Model_hash_of {a0 : Option Addr} {a1_0 : Int} {a1_1 : Int} {a1_2 : Int} {a1_3 : Int} {a1_4 : Int} {h : PH} {Q : Value → PH → Prop} (x : P_model_Model_hash a0 a1_0 a1_1 a1_2 a1_3 a1_4 h Q) : Meets Try.prog 83 #[(.pointer a0), (.agg #[(.int .i64 a1_0), (.int .i64 a1_1), (.int .i64 a1_2), (.int .i64 a1_3), (.int .i64 a1_4)])] h Q :=
  spec_of Try.func83 mix (by kernel_rfl) ((P_model_Model_hash_eq a0 a1_0 a1_1 a1_2 a1_3 a1_4 h Q).symm ▸ x)
/-- (*futtock/model.Model).holds -/
def A_model_Model_holds : Ann := .seq (.leaf) (.seq (.leaf) (.leaf))
def P_model_Model_holds (a0 : Option Addr) (a1_0 : Int) (a1_1 : Int) (a1_2 : Int) (a1_3 : Int) (a1_4 : Int) (h : PH) (Q : Value → PH → Prop) : Prop :=
 xNew h (.cells #[(.int .i64 a1_0), (.int .i64 a1_1), (.int .i64 a1_2), (.int .i64 a1_3), (.int .i64 a1_4)] 33 (0, 0)) fun b3 h_1 =>
 oI .i64 (h_1.cell ((⟨b3, 0, none⟩ : Addr).add 4)) fun x6 =>
 xSc (x6 == 0) true (fun J_1 =>
 oI .i64 (h_1.cell ((⟨b3, 0, none⟩ : Addr).add 3)) fun x10 =>
 xSc (x10 == 1) true (fun J_2 =>
 oI .i64 (h_1.cell ((⟨b3, 0, none⟩ : Addr).add 0)) fun x14_0 =>
 oI .i64 (h_1.cell ((⟨b3, 0, none⟩ : Addr).add 1)) fun x14_1 =>
 oI .i64 (h_1.cell ((⟨b3, 0, none⟩ : Addr).add 2)) fun x14_2 =>
 oI .i64 (h_1.cell ((⟨b3, 0, none⟩ : Addr).add 3)) fun x14_3 =>
 oI .i64 (h_1.cell ((⟨b3, 0, none⟩ : Addr).add 4)) fun x14_4 =>
 Meets Try.prog 104 #[(.pointer a0), (.agg #[(.int .i64 x14_0), (.int .i64 x14_1), (.int .i64 x14_2), (.int .i64 x14_3), (.int .i64 x14_4)])] h_1 fun v15 h_2 =>
 oB (some v15) fun x15 =>
 J_2 x15 h_2)
 (fun r16 h_3 =>
 xSc r16 false (fun J_3 =>
 oI .i64 (h_3.cell ((⟨b3, 0, none⟩ : Addr).add 3)) fun x19 =>
 xSc (x19 == 0) true (fun J_4 =>
 oI .i64 (h_3.cell ((⟨b3, 0, none⟩ : Addr).add 0)) fun x23_0 =>
 oI .i64 (h_3.cell ((⟨b3, 0, none⟩ : Addr).add 1)) fun x23_1 =>
 oI .i64 (h_3.cell ((⟨b3, 0, none⟩ : Addr).add 2)) fun x23_2 =>
 oI .i64 (h_3.cell ((⟨b3, 0, none⟩ : Addr).add 3)) fun x23_3 =>
 oI .i64 (h_3.cell ((⟨b3, 0, none⟩ : Addr).add 4)) fun x23_4 =>
 Meets Try.prog 104 #[(.pointer a0), (.agg #[(.int .i64 x23_0), (.int .i64 x23_1), (.int .i64 x23_2), (.int .i64 x23_3), (.int .i64 x23_4)])] h_3 fun v24 h_4 =>
 oB (some v24) fun x24 =>
 J_4 (!x24) h_4)
 (fun r26 h_5 =>
 J_3 r26 h_5) h_3)
 (fun r27 h_6 =>
 J_1 r27 h_6) h_3) h_1)
 (fun r28 h_7 =>
 Q (.bool r28) h_7) h_1
theorem P_model_Model_holds_eq (a0 : Option Addr) (a1_0 : Int) (a1_1 : Int) (a1_2 : Int) (a1_3 : Int) (a1_4 : Int) (h : PH) (Q : Value → PH → Prop) : dFn Try.prog Try.f84 A_model_Model_holds #[(.pointer a0), (.agg #[(.int .i64 a1_0), (.int .i64 a1_1), (.int .i64 a1_2), (.int .i64 a1_3), (.int .i64 a1_4)])] h Q = P_model_Model_holds a0 a1_0 a1_1 a1_2 a1_3 a1_4 h Q := by kernel_rfl
theorem P_model_Model_holds_of {a0 : Option Addr} {a1_0 : Int} {a1_1 : Int} {a1_2 : Int} {a1_3 : Int} {a1_4 : Int} {h : PH} {Q : Value → PH → Prop} (x : P_model_Model_holds a0 a1_0 a1_1 a1_2 a1_3 a1_4 h Q) : Meets Try.prog 84 #[(.pointer a0), (.agg #[(.int .i64 a1_0), (.int .i64 a1_1), (.int .i64 a1_2), (.int .i64 a1_3), (.int .i64 a1_4)])] h Q :=
  spec_of Try.func84 mix (by kernel_rfl) ((P_model_Model_holds_eq a0 a1_0 a1_1 a1_2 a1_3 a1_4 h Q).symm ▸ x)
/-- (*futtock/model.Model).apply -/
def A_model_Model_apply : Ann := .seq (.leaf) (.seq (.leaf) (.seq (.seq (.leaf) (.block [] (.seq (.seq (.leaf) (.cond [(12, .bool)] (.leaf) (.leaf))) (.cond [] (.seq (.leaf) (.leaf)) (.seq (.leaf) (.cond [] (.seq (.leaf) (.leaf)) (.seq (.leaf) (.cond [] (.seq (.leaf) (.leaf)) (.seq (.leaf) (.cond [] (.seq (.draw [(0, .flt), (1, .flt), (2, .flt), (3, .flt), (4, .flt), (5, .flt), (6, .flt), (7, .flt), (8, .flt), (9, .flt), (10, .flt), (11, .flt), (12, .flt), (13, .flt), (14, .flt), (15, .flt), (16, .flt), (17, .flt), (18, .flt)]) (.seq (.leaf) (.leaf))) (.seq (.leaf) (.cond [] (.seq (.leaf) (.leaf)) (.seq (.seq (.leaf) (.cond [(80, .bool)] (.leaf) (.seq (.leaf) (.cond [(80, .bool)] (.leaf) (.leaf))))) (.cond [] (.seq (.leaf) (.leaf)) (.seq (.leaf) (.cond [] (.seq (.leaf) (.leaf)) (.seq (.leaf) (.cond [] (.seq (.leaf) (.leaf)) (.seq (.leaf) (.cond [] (.seq (.seq (.leaf) (.cond [] (.seq (.leaf) (.leaf)) (.leaf))) (.seq (.draw [(0, .flt), (1, .flt), (2, .flt), (3, .flt), (4, .flt), (5, .flt), (6, .flt), (7, .brk)]) (.seq (.leaf) (.leaf)))) (.leaf))))))))))))))))))))) (.seq (.leaf) (.leaf))))
def P_model_Model_apply (a0 : Option Addr) (a1_0 : Int) (a1_1 : Int) (a1_2 : Int) (a1_3 : Int) (a1_4 : Int) (h : PH) (Q : Value → PH → Prop) : Prop :=
 xNew h (.cells #[(.int .i64 a1_0), (.int .i64 a1_1), (.int .i64 a1_2), (.int .i64 a1_3), (.int .i64 a1_4)] 33 (0, 0)) fun b3 h_1 =>
 oI .i64 (h_1.cell ((⟨b3, 0, none⟩ : Addr).add 3)) fun x8 =>
 oI .i64 (h_1.cell ((⟨b3, 0, none⟩ : Addr).add 0)) fun x11 =>
 xBlk (fun J_1 =>
 xIte (x11 == 1) (fun J_2 =>
 J_2 (x11 == 1) h_1)
 (fun J_2 =>
 J_2 (x11 == 2) h_1)
 (fun (x12 : Bool) (h_2 : PH) =>
 xIte x12 (fun J_3 =>
 xSc (x8 == 0) true (fun J_4 =>
 oI .i64 (h_2.cell ((⟨b3, 0, none⟩ : Addr).add 0)) fun x18_0 =>
 oI .i64 (h_2.cell ((⟨b3, 0, none⟩ : Addr).add 1)) fun x18_1 =>
 oI .i64 (h_2.cell ((⟨b3, 0, none⟩ : Addr).add 2)) fun x18_2 =>
 oI .i64 (h_2.cell ((⟨b3, 0, none⟩ : Addr).add 3)) fun x18_3 =>
 oI .i64 (h_2.cell ((⟨b3, 0, none⟩ : Addr).add 4)) fun x18_4 =>
 Meets Try.prog 77 #[(.pointer a0), (.agg #[(.int .i64 x18_0), (.int .i64 x18_1), (.int .i64 x18_2), (.int .i64 x18_3), (.int .i64 x18_4)])] h_2 fun v19 h_3 =>
 oB (some v19) fun x19 =>
 J_4 x19 h_3)
 (fun r20 h_4 =>
 Q (.bool r20) h_4) h_2)
 (fun J_3 =>
 xIte (x11 == 3) (fun J_5 =>
 xSc (x8 == 0) true (fun J_6 =>
 oI .i64 (h_2.cell ((⟨b3, 0, none⟩ : Addr).add 0)) fun x26_0 =>
 oI .i64 (h_2.cell ((⟨b3, 0, none⟩ : Addr).add 1)) fun x26_1 =>
 oI .i64 (h_2.cell ((⟨b3, 0, none⟩ : Addr).add 2)) fun x26_2 =>
 oI .i64 (h_2.cell ((⟨b3, 0, none⟩ : Addr).add 3)) fun x26_3 =>
 oI .i64 (h_2.cell ((⟨b3, 0, none⟩ : Addr).add 4)) fun x26_4 =>
 Meets Try.prog 78 #[(.pointer a0), (.agg #[(.int .i64 x26_0), (.int .i64 x26_1), (.int .i64 x26_2), (.int .i64 x26_3), (.int .i64 x26_4)])] h_2 fun v27 h_5 =>
 oB (some v27) fun x27 =>
 J_6 x27 h_5)
 (fun r28 h_6 =>
 Q (.bool r28) h_6) h_2)
 (fun J_5 =>
 xIte (x11 == 4) (fun J_7 =>
 xSc (x8 == 0) true (fun J_8 =>
 oI .i64 (h_2.cell ((⟨b3, 0, none⟩ : Addr).add 0)) fun x34_0 =>
 oI .i64 (h_2.cell ((⟨b3, 0, none⟩ : Addr).add 1)) fun x34_1 =>
 oI .i64 (h_2.cell ((⟨b3, 0, none⟩ : Addr).add 2)) fun x34_2 =>
 oI .i64 (h_2.cell ((⟨b3, 0, none⟩ : Addr).add 3)) fun x34_3 =>
 oI .i64 (h_2.cell ((⟨b3, 0, none⟩ : Addr).add 4)) fun x34_4 =>
 Meets Try.prog 79 #[(.pointer a0), (.agg #[(.int .i64 x34_0), (.int .i64 x34_1), (.int .i64 x34_2), (.int .i64 x34_3), (.int .i64 x34_4)])] h_2 fun v35 h_7 =>
 oB (some v35) fun x35 =>
 J_8 x35 h_7)
 (fun r36 h_8 =>
 Q (.bool r36) h_8) h_2)
 (fun J_7 =>
 xIte (x11 == 5) (fun J_9 =>
 xDraw h_2 fun hs_1 =>
 oI .i64 (hs_1.cell ((⟨b3, 0, none⟩ : Addr).add 4)) fun x40 =>
 xSc (x40 == 13) false (fun J_10 =>
 oI .i64 (hs_1.cell ((⟨b3, 0, none⟩ : Addr).add 4)) fun x44 =>
 xSc (x44 == 12) true (fun J_11 =>
 xNn a0 fun x48 =>
 oS (hs_1.cell (x48.add 2)) fun x50a x50l x50c =>
 oI .i64 (hs_1.cell ((⟨b3, 0, none⟩ : Addr).add 1)) fun x52 =>
 xIdx x50a x50l x52 1 fun x53 =>
 oB (hs_1.cell x53) fun x54 =>
 J_11 x54 h_2)
 (fun r55 h_9 =>
 J_10 r55 h_9) h_2)
 (fun r56 h_10 =>
 xSc (x8 == 0) true (fun J_12 =>
 J_12 r56 h_10)
 (fun r60 h_11 =>
 xSc r60 true (fun J_13 =>
 oI .i64 (h_11.cell ((⟨b3, 0, none⟩ : Addr).add 2)) fun x64 =>
 oI .i64 (h_11.cell ((⟨b3, 0, none⟩ : Addr).add 1)) fun x66 =>
 oI .i64 (h_11.cell ((⟨b3, 0, none⟩ : Addr).add 4)) fun x69 =>
 Meets Try.prog 80 #[(.pointer a0), (.agg #[(.int .i64 x64), (.int .i64 x66)]), (.int .i64 x69)] h_11 fun v70 h_12 =>
 oB (some v70) fun x70 =>
 J_13 x70 h_12)
 (fun r71 h_13 =>
 Q (.bool r71) h_13) h_11) h_10) h_2)
 (fun J_9 =>
 xIte (x11 == 6) (fun J_14 =>
 xSc (x8 == 0) true (fun J_15 =>
 oI .i64 (h_2.cell ((⟨b3, 0, none⟩ : Addr).add 0)) fun x77_0 =>
 oI .i64 (h_2.cell ((⟨b3, 0, none⟩ : Addr).add 1)) fun x77_1 =>
 oI .i64 (h_2.cell ((⟨b3, 0, none⟩ : Addr).add 2)) fun x77_2 =>
 oI .i64 (h_2.cell ((⟨b3, 0, none⟩ : Addr).add 3)) fun x77_3 =>
 oI .i64 (h_2.cell ((⟨b3, 0, none⟩ : Addr).add 4)) fun x77_4 =>
 Meets Try.prog 81 #[(.pointer a0), (.agg #[(.int .i64 x77_0), (.int .i64 x77_1), (.int .i64 x77_2), (.int .i64 x77_3), (.int .i64 x77_4)])] h_2 fun v78 h_14 =>
 oB (some v78) fun x78 =>
 J_15 x78 h_14)
 (fun r79 h_15 =>
 Q (.bool r79) h_15) h_2)
 (fun J_14 =>
 xIte (x11 == 7) (fun J_16 =>
 J_16 (x11 == 7) h_2)
 (fun J_16 =>
 xIte (x11 == 8) (fun J_17 =>
 J_17 (x11 == 8) h_2)
 (fun J_17 =>
 J_17 (x11 == 9) h_2)
 (fun (x80 : Bool) (h_16 : PH) =>
 J_16 x80 h_16))
 (fun (x80_1 : Bool) (h_17 : PH) =>
 xIte x80_1 (fun J_18 =>
 oI .i64 (h_17.cell ((⟨b3, 0, none⟩ : Addr).add 0)) fun x85_0 =>
 oI .i64 (h_17.cell ((⟨b3, 0, none⟩ : Addr).add 1)) fun x85_1 =>
 oI .i64 (h_17.cell ((⟨b3, 0, none⟩ : Addr).add 2)) fun x85_2 =>
 oI .i64 (h_17.cell ((⟨b3, 0, none⟩ : Addr).add 3)) fun x85_3 =>
 oI .i64 (h_17.cell ((⟨b3, 0, none⟩ : Addr).add 4)) fun x85_4 =>
 Meets Try.prog 82 #[(.pointer a0), (.agg #[(.int .i64 x85_0), (.int .i64 x85_1), (.int .i64 x85_2), (.int .i64 x85_3), (.int .i64 x85_4)])] h_17 fun v86 h_18 =>
 oB (some v86) fun x86 =>
 Q (.bool x86) h_18)
 (fun J_18 =>
 xIte (x11 == 10) (fun J_19 =>
 oI .i64 (h_17.cell ((⟨b3, 0, none⟩ : Addr).add 0)) fun x90_0 =>
 oI .i64 (h_17.cell ((⟨b3, 0, none⟩ : Addr).add 1)) fun x90_1 =>
 oI .i64 (h_17.cell ((⟨b3, 0, none⟩ : Addr).add 2)) fun x90_2 =>
 oI .i64 (h_17.cell ((⟨b3, 0, none⟩ : Addr).add 3)) fun x90_3 =>
 oI .i64 (h_17.cell ((⟨b3, 0, none⟩ : Addr).add 4)) fun x90_4 =>
 Meets Try.prog 83 #[(.pointer a0), (.agg #[(.int .i64 x90_0), (.int .i64 x90_1), (.int .i64 x90_2), (.int .i64 x90_3), (.int .i64 x90_4)])] h_17 fun v91 h_19 =>
 oB (some v91) fun x91 =>
 Q (.bool x91) h_19)
 (fun J_19 =>
 xIte (x11 == 11) (fun J_20 =>
 oI .i64 (h_17.cell ((⟨b3, 0, none⟩ : Addr).add 0)) fun x95_0 =>
 oI .i64 (h_17.cell ((⟨b3, 0, none⟩ : Addr).add 1)) fun x95_1 =>
 oI .i64 (h_17.cell ((⟨b3, 0, none⟩ : Addr).add 2)) fun x95_2 =>
 oI .i64 (h_17.cell ((⟨b3, 0, none⟩ : Addr).add 3)) fun x95_3 =>
 oI .i64 (h_17.cell ((⟨b3, 0, none⟩ : Addr).add 4)) fun x95_4 =>
 Meets Try.prog 84 #[(.pointer a0), (.agg #[(.int .i64 x95_0), (.int .i64 x95_1), (.int .i64 x95_2), (.int .i64 x95_3), (.int .i64 x95_4)])] h_17 fun v96 h_20 =>
 oB (some v96) fun x96 =>
 Q (.bool x96) h_20)
 (fun J_20 =>
 xIte (x11 == 12) (fun J_21 =>
 oI .i64 (h_17.cell ((⟨b3, 0, none⟩ : Addr).add 4)) fun x100 =>
 xSc (x100 != 0) false (fun J_22 =>
 oI .i64 (h_17.cell ((⟨b3, 0, none⟩ : Addr).add 3)) fun x105 =>
 Meets Try.prog 57 #[(.pointer a0), (.int .i64 x105)] h_17 fun v106 h_21 =>
 oB (some v106) fun x106 =>
 J_22 (!x106) h_21)
 (fun r108 h_22 =>
 xIte r108 (fun J_23 =>
 Q (.bool false) h_22)
 (fun J_23 =>
 J_23 h_22)
 (fun  (h_23 : PH) =>
 xDraw h_23 fun hs_2 =>
 xNn a0 fun x110 =>
 oS (hs_2.cell (x110.add 2)) fun x112a x112l x112c =>
 oI .i64 (hs_2.cell ((⟨b3, 0, none⟩ : Addr).add 3)) fun x114 =>
 xIdx x112a x112l x114 1 fun x115 =>
 xSt 1 h_23 x115 [(.bool true)] fun h_24 =>
 Q (.bool true) h_24)) h_17)
 (fun J_21 =>
 J_21 h_17)
 (fun  (h_25 : PH) =>
 J_20 h_25))
 (fun  (h_26 : PH) =>
 J_19 h_26))
 (fun  (h_27 : PH) =>
 J_18 h_27))
 (fun  (h_28 : PH) =>
 J_14 h_28)))
 (fun  (h_29 : PH) =>
 J_9 h_29))
 (fun  (h_30 : PH) =>
 J_7 h_30))
 (fun  (h_31 : PH) =>
 J_5 h_31))
 (fun  (h_32 : PH) =>
 J_3 h_32))
 (fun  (h_33 : PH) =>
 J_1 h_33)))
 (fun  (h_34 : PH) =>
 Q (.bool false) h_34)
theorem P_model_Model_apply_eq (a0 : Option Addr) (a1_0 : Int) (a1_1 : Int) (a1_2 : Int) (a1_3 : Int) (a1_4 : Int) (h : PH) (Q : Value → PH → Prop) : dFn Try.prog Try.f52 A_model_Model_apply #[(.pointer a0), (.agg #[(.int .i64 a1_0), (.int .i64 a1_1), (.int .i64 a1_2), (.int .i64 a1_3), (.int .i64 a1_4)])] h Q = P_model_Model_apply a0 a1_0 a1_1 a1_2 a1_3 a1_4 h Q := by kernel_rfl
theorem P_model_Model_apply_of {a0 : Option Addr} {a1_0 : Int} {a1_1 : Int} {a1_2 : Int} {a1_3 : Int} {a1_4 : Int} {h : PH} {Q : Value → PH → Prop} (x : P_model_Model_apply a0 a1_0 a1_1 a1_2 a1_3 a1_4 h Q) : Meets Try.prog 52 #[(.pointer a0), (.agg #[(.int .i64 a1_0), (.int .i64 a1_1), (.int .i64 a1_2), (.int .i64 a1_3), (.int .i64 a1_4)])] h Q :=
  spec_of Try.func52 mix (by kernel_rfl) ((P_model_Model_apply_eq a0 a1_0 a1_1 a1_2 a1_3 a1_4 h Q).symm ▸ x)
/-- (*futtock/model.Model).Apply -/
def A_model_Model_Apply : Ann := .seq (.leaf) (.seq (.seq (.leaf) (.cond [] (.seq (.leaf) (.leaf)) (.leaf))) (.seq (.leaf) (.leaf)))
def P_model_Model_Apply (a0 : Option Addr) (a1_0 : Int) (a1_1 : Int) (a1_2 : Int) (a1_3 : Int) (a1_4 : Int) (h : PH) (Q : Value → PH → Prop) : Prop :=
 xNew h (.cells #[(.int .i64 a1_0), (.int .i64 a1_1), (.int .i64 a1_2), (.int .i64 a1_3), (.int .i64 a1_4)] 33 (0, 0)) fun b3 h_1 =>
 oI .i64 (h_1.cell ((⟨b3, 0, none⟩ : Addr).add 0)) fun x6_0 =>
 oI .i64 (h_1.cell ((⟨b3, 0, none⟩ : Addr).add 1)) fun x6_1 =>
 oI .i64 (h_1.cell ((⟨b3, 0, none⟩ : Addr).add 2)) fun x6_2 =>
 oI .i64 (h_1.cell ((⟨b3, 0, none⟩ : Addr).add 3)) fun x6_3 =>
 oI .i64 (h_1.cell ((⟨b3, 0, none⟩ : Addr).add 4)) fun x6_4 =>
 Meets Try.prog 51 #[(.pointer a0), (.agg #[(.int .i64 x6_0), (.int .i64 x6_1), (.int .i64 x6_2), (.int .i64 x6_3), (.int .i64 x6_4)])] h_1 fun v7 h_2 =>
 oB (some v7) fun x7 =>
 xSc (!x7) false (fun J_1 =>
 oI .i64 (h_2.cell ((⟨b3, 0, none⟩ : Addr).add 0)) fun x11_0 =>
 oI .i64 (h_2.cell ((⟨b3, 0, none⟩ : Addr).add 1)) fun x11_1 =>
 oI .i64 (h_2.cell ((⟨b3, 0, none⟩ : Addr).add 2)) fun x11_2 =>
 oI .i64 (h_2.cell ((⟨b3, 0, none⟩ : Addr).add 3)) fun x11_3 =>
 oI .i64 (h_2.cell ((⟨b3, 0, none⟩ : Addr).add 4)) fun x11_4 =>
 Meets Try.prog 52 #[(.pointer a0), (.agg #[(.int .i64 x11_0), (.int .i64 x11_1), (.int .i64 x11_2), (.int .i64 x11_3), (.int .i64 x11_4)])] h_2 fun v12 h_3 =>
 oB (some v12) fun x12 =>
 J_1 (!x12) h_3)
 (fun r14 h_4 =>
 xIte r14 (fun J_2 =>
 Q (.int .i64 15) h_4)
 (fun J_2 =>
 J_2 h_4)
 (fun  (h_5 : PH) =>
 Q (.int .i64 0) h_5)) h_2
theorem P_model_Model_Apply_eq (a0 : Option Addr) (a1_0 : Int) (a1_1 : Int) (a1_2 : Int) (a1_3 : Int) (a1_4 : Int) (h : PH) (Q : Value → PH → Prop) : dFn Try.prog Try.f14 A_model_Model_Apply #[(.pointer a0), (.agg #[(.int .i64 a1_0), (.int .i64 a1_1), (.int .i64 a1_2), (.int .i64 a1_3), (.int .i64 a1_4)])] h Q = P_model_Model_Apply a0 a1_0 a1_1 a1_2 a1_3 a1_4 h Q := by kernel_rfl
theorem P_model_Model_Apply_of {a0 : Option Addr} {a1_0 : Int} {a1_1 : Int} {a1_2 : Int} {a1_3 : Int} {a1_4 : Int} {h : PH} {Q : Value → PH → Prop} (x : P_model_Model_Apply a0 a1_0 a1_1 a1_2 a1_3 a1_4 h Q) : Meets Try.prog 14 #[(.pointer a0), (.agg #[(.int .i64 a1_0), (.int .i64 a1_1), (.int .i64 a1_2), (.int .i64 a1_3), (.int .i64 a1_4)])] h Q :=
  spec_of Try.func14 mix (by kernel_rfl) ((P_model_Model_Apply_eq a0 a1_0 a1_1 a1_2 a1_3 a1_4 h Q).symm ▸ x)
/-- (*futtock/model.Model).at -/
def A_model_Model_at : Ann := .seq (.leaf) (.seq (.seq (.leaf) (.cond [] (.seq (.leaf) (.leaf)) (.leaf))) (.seq (.leaf) (.leaf)))
def P_model_Model_at (a0 : Option Addr) (a1 : Int) (h : PH) (Q : Value → PH → Prop) : Prop :=
 xNew h (.cells #[(.int .i64 0), (.int .i64 0), (.int .i64 0)] 117 (0, 0)) fun b4 h_1 =>
 Meets Try.prog 46 #[(.pointer a0)] h_1 fun v6 h_2 =>
 oB (some v6) fun x6 =>
 xSc (!x6) false (fun J_1 =>
 xNn a0 fun x11 =>
 oS (h_2.cell (x11.add 1)) fun x13a x13l x13c =>
 Meets Try.prog 45 #[(.int .i64 a1), (.int .i64 0), (.int .i64 (IntKind.wrap .i64 (((x13l : Nat) : Int) - 1)))] h_2 fun v16 h_3 =>
 oB (some v16) fun x16 =>
 J_1 (!x16) h_3)
 (fun r18 h_4 =>
 xIte r18 (fun J_2 =>
 xSt 3 h_4 (⟨b4, 0, none⟩ : Addr) [(.int .i64 (-1)), (.int .i64 0), (.int .i64 0)] fun h_5 =>
 oI .i64 (h_5.cell ((⟨b4, 0, none⟩ : Addr).add 0)) fun y4_0 =>
 oI .i64 (h_5.cell ((⟨b4, 0, none⟩ : Addr).add 1)) fun y4_1 =>
 oI .i64 (h_5.cell ((⟨b4, 0, none⟩ : Addr).add 2)) fun y4_2 =>
 Q (.agg #[(.int .i64 y4_0), (.int .i64 y4_1), (.int .i64 y4_2)]) h_5)
 (fun J_2 =>
 J_2 h_4)
 (fun  (h_6 : PH) =>
 xNn a0 fun x21 =>
 oS (h_6.cell (x21.add 1)) fun x23a x23l x23c =>
 xIdx x23a x23l a1 3 fun x25 =>
 oI .i64 (h_6.cell (x25.add 0)) fun x26_0 =>
 oI .i64 (h_6.cell (x25.add 1)) fun x26_1 =>
 oI .i64 (h_6.cell (x25.add 2)) fun x26_2 =>
 xSt 3 h_6 (⟨b4, 0, none⟩ : Addr) [(.int .i64 x26_0), (.int .i64 x26_1), (.int .i64 x26_2)] fun h_7 =>
 oI .i64 (h_7.cell ((⟨b4, 0, none⟩ : Addr).add 0)) fun y4_0_1 =>
 oI .i64 (h_7.cell ((⟨b4, 0, none⟩ : Addr).add 1)) fun y4_1_1 =>
 oI .i64 (h_7.cell ((⟨b4, 0, none⟩ : Addr).add 2)) fun y4_2_1 =>
 Q (.agg #[(.int .i64 y4_0_1), (.int .i64 y4_1_1), (.int .i64 y4_2_1)]) h_7)) h_2
theorem P_model_Model_at_eq (a0 : Option Addr) (a1 : Int) (h : PH) (Q : Value → PH → Prop) : dFn Try.prog Try.f58 A_model_Model_at #[(.pointer a0), (.int .i64 a1)] h Q = P_model_Model_at a0 a1 h Q := by kernel_rfl
theorem P_model_Model_at_of {a0 : Option Addr} {a1 : Int} {h : PH} {Q : Value → PH → Prop} (x : P_model_Model_at a0 a1 h Q) : Meets Try.prog 58 #[(.pointer a0), (.int .i64 a1)] h Q :=
  spec_of Try.func58 mix (by kernel_rfl) ((P_model_Model_at_eq a0 a1 h Q).symm ▸ x)
/-- (*futtock/model.Model).Owner -/
def A_model_Model_Owner : Ann := .seq (.leaf) (.seq (.leaf) (.leaf))
def P_model_Model_Owner (a0 : Option Addr) (a1 : Int) (h : PH) (Q : Value → PH → Prop) : Prop :=
 Meets Try.prog 58 #[(.pointer a0), (.int .i64 a1)] h fun v7 h_1 =>
 oAgg v7 3 fun x7cs =>
 oI .i64 x7cs[0]? fun x7_0 =>
 oI .i64 x7cs[1]? fun x7_1 =>
 oI .i64 x7cs[2]? fun x7_2 =>
 Q (.int .i64 x7_0) h_1
theorem P_model_Model_Owner_eq (a0 : Option Addr) (a1 : Int) (h : PH) (Q : Value → PH → Prop) : dFn Try.prog Try.f18 A_model_Model_Owner #[(.pointer a0), (.int .i64 a1)] h Q = P_model_Model_Owner a0 a1 h Q := by kernel_rfl
theorem P_model_Model_Owner_of {a0 : Option Addr} {a1 : Int} {h : PH} {Q : Value → PH → Prop} (x : P_model_Model_Owner a0 a1 h Q) : Meets Try.prog 18 #[(.pointer a0), (.int .i64 a1)] h Q :=
  spec_of Try.func18 mix (by kernel_rfl) ((P_model_Model_Owner_eq a0 a1 h Q).symm ▸ x)
/-- (*futtock/model.Model).Count -/
def A_model_Model_Count : Ann := .seq (.leaf) (.seq (.leaf) (.leaf))
def P_model_Model_Count (a0 : Option Addr) (a1 : Int) (h : PH) (Q : Value → PH → Prop) : Prop :=
 Meets Try.prog 58 #[(.pointer a0), (.int .i64 a1)] h fun v7 h_1 =>
 oAgg v7 3 fun x7cs =>
 oI .i64 x7cs[0]? fun x7_0 =>
 oI .i64 x7cs[1]? fun x7_1 =>
 oI .i64 x7cs[2]? fun x7_2 =>
 Q (.int .i64 x7_1) h_1
theorem P_model_Model_Count_eq (a0 : Option Addr) (a1 : Int) (h : PH) (Q : Value → PH → Prop) : dFn Try.prog Try.f19 A_model_Model_Count #[(.pointer a0), (.int .i64 a1)] h Q = P_model_Model_Count a0 a1 h Q := by kernel_rfl
theorem P_model_Model_Count_of {a0 : Option Addr} {a1 : Int} {h : PH} {Q : Value → PH → Prop} (x : P_model_Model_Count a0 a1 h Q) : Meets Try.prog 19 #[(.pointer a0), (.int .i64 a1)] h Q :=
  spec_of Try.func19 mix (by kernel_rfl) ((P_model_Model_Count_eq a0 a1 h Q).symm ▸ x)
/-- (*futtock/model.Model).Hash -/
def A_model_Model_Hash : Ann := .seq (.leaf) (.seq (.leaf) (.leaf))
def P_model_Model_Hash (a0 : Option Addr) (a1 : Int) (h : PH) (Q : Value → PH → Prop) : Prop :=
 Meets Try.prog 58 #[(.pointer a0), (.int .i64 a1)] h fun v7 h_1 =>
 oAgg v7 3 fun x7cs =>
 oI .i64 x7cs[0]? fun x7_0 =>
 oI .i64 x7cs[1]? fun x7_1 =>
 oI .i64 x7cs[2]? fun x7_2 =>
 Q (.int .i64 x7_2) h_1
theorem P_model_Model_Hash_eq (a0 : Option Addr) (a1 : Int) (h : PH) (Q : Value → PH → Prop) : dFn Try.prog Try.f21 A_model_Model_Hash #[(.pointer a0), (.int .i64 a1)] h Q = P_model_Model_Hash a0 a1 h Q := by kernel_rfl
theorem P_model_Model_Hash_of {a0 : Option Addr} {a1 : Int} {h : PH} {Q : Value → PH → Prop} (x : P_model_Model_Hash a0 a1 h Q) : Meets Try.prog 21 #[(.pointer a0), (.int .i64 a1)] h Q :=
  spec_of Try.func21 mix (by kernel_rfl) ((P_model_Model_Hash_eq a0 a1 h Q).symm ▸ x)
/-- (*futtock/model.Model).Flag -/
def A_model_Model_Flag : Ann := .seq (.leaf) (.seq (.leaf) (.leaf))
def P_model_Model_Flag (a0 : Option Addr) (a1 : Int) (h : PH) (Q : Value → PH → Prop) : Prop :=
 Meets Try.prog 46 #[(.pointer a0)] h fun v6 h_1 =>
 oB (some v6) fun x6 =>
 xSc x6 true (fun J_1 =>
 Meets Try.prog 57 #[(.pointer a0), (.int .i64 a1)] h_1 fun v10 h_2 =>
 oB (some v10) fun x10 =>
 J_1 x10 h_2)
 (fun r11 h_3 =>
 xSc r11 true (fun J_2 =>
 xNn a0 fun x14 =>
 oS (h_3.cell (x14.add 2)) fun x16a x16l x16c =>
 xIdx x16a x16l a1 1 fun x18 =>
 oB (h_3.cell x18) fun x19 =>
 J_2 x19 h_3)
 (fun r20 h_4 =>
 Q (.bool r20) h_4) h_3) h_1
theorem P_model_Model_Flag_eq (a0 : Option Addr) (a1 : Int) (h : PH) (Q : Value → PH → Prop) : dFn Try.prog Try.f17 A_model_Model_Flag #[(.pointer a0), (.int .i64 a1)] h Q = P_model_Model_Flag a0 a1 h Q := by kernel_rfl
theorem P_model_Model_Flag_of {a0 : Option Addr} {a1 : Int} {h : PH} {Q : Value → PH → Prop} (x : P_model_Model_Flag a0 a1 h Q) : Meets Try.prog 17 #[(.pointer a0), (.int .i64 a1)] h Q :=
  spec_of Try.func17 mix (by kernel_rfl) ((P_model_Model_Flag_eq a0 a1 h Q).symm ▸ x)
/-- (*futtock/model.Model).Waiters -/
def A_model_Model_Waiters : Ann := .seq (.leaf) (.seq (.seq (.leaf) (.cond [] (.seq (.leaf) (.leaf)) (.leaf))) (.seq (.leaf) (.leaf)))
def P_model_Model_Waiters (a0 : Option Addr) (a1 : Int) (h : PH) (Q : Value → PH → Prop) : Prop :=
 Meets Try.prog 46 #[(.pointer a0)] h fun v6 h_1 =>
 oB (some v6) fun x6 =>
 xIte (!x6) (fun J_1 =>
 Q (.slice none 0 0) h_1)
 (fun J_1 =>
 J_1 h_1)
 (fun  (h_2 : PH) =>
 xNn a0 fun x9 =>
 oM (h_2.cell (x9.add 3)) fun x11 =>
 Meets Try.prog 59 #[(.map x11), (.int .i64 a1)] h_2 fun v13 h_3 =>
 oS (some v13) fun x13a x13l x13c =>
 Q (.slice x13a x13l x13c) h_3)
theorem P_model_Model_Waiters_eq (a0 : Option Addr) (a1 : Int) (h : PH) (Q : Value → PH → Prop) : dFn Try.prog Try.f22 A_model_Model_Waiters #[(.pointer a0), (.int .i64 a1)] h Q = P_model_Model_Waiters a0 a1 h Q := by kernel_rfl
theorem P_model_Model_Waiters_of {a0 : Option Addr} {a1 : Int} {h : PH} {Q : Value → PH → Prop} (x : P_model_Model_Waiters a0 a1 h Q) : Meets Try.prog 22 #[(.pointer a0), (.int .i64 a1)] h Q :=
  spec_of Try.func22 mix (by kernel_rfl) ((P_model_Model_Waiters_eq a0 a1 h Q).symm ▸ x)
/-- (*futtock/model.Model).Left -/
def A_model_Model_Left : Ann := .seq (.leaf) (.seq (.seq (.leaf) (.cond [] (.seq (.leaf) (.leaf)) (.leaf))) (.seq (.leaf) (.leaf)))
def P_model_Model_Left (a0 : Option Addr) (a1 : Int) (h : PH) (Q : Value → PH → Prop) : Prop :=
 Meets Try.prog 46 #[(.pointer a0)] h fun v6 h_1 =>
 oB (some v6) fun x6 =>
 xIte (!x6) (fun J_1 =>
 Q (.slice none 0 0) h_1)
 (fun J_1 =>
 J_1 h_1)
 (fun  (h_2 : PH) =>
 xNn a0 fun x9 =>
 oM (h_2.cell (x9.add 4)) fun x11 =>
 Meets Try.prog 60 #[(.map x11), (.int .i64 a1)] h_2 fun v13 h_3 =>
 oS (some v13) fun x13a x13l x13c =>
 Q (.slice x13a x13l x13c) h_3)
theorem P_model_Model_Left_eq (a0 : Option Addr) (a1 : Int) (h : PH) (Q : Value → PH → Prop) : dFn Try.prog Try.f23 A_model_Model_Left #[(.pointer a0), (.int .i64 a1)] h Q = P_model_Model_Left a0 a1 h Q := by kernel_rfl
theorem P_model_Model_Left_of {a0 : Option Addr} {a1 : Int} {h : PH} {Q : Value → PH → Prop} (x : P_model_Model_Left a0 a1 h Q) : Meets Try.prog 23 #[(.pointer a0), (.int .i64 a1)] h Q :=
  spec_of Try.func23 mix (by kernel_rfl) ((P_model_Model_Left_eq a0 a1 h Q).symm ▸ x)
/-- futtock/model.New -/
def A_model_New : Ann := .seq (.leaf) (.seq (.seq (.leaf) (.cond [] (.seq (.leaf) (.leaf)) (.leaf))) (.seq (.leaf) (.seq (.seq (.leaf) (.block [] (.loop [(30, (.int .i64))] (.seq (.leaf) (.seq (.cond [] (.leaf) (.leaf)) (.seq (.block [] (.leaf)) (.leaf))))))) (.seq (.leaf) (.leaf)))))
def P_model_New (a0 : Int) (a1 : Int) (a2 : Int) (h : PH) (Q : Value → PH → Prop) : Prop :=
 Meets Try.prog 45 #[(.int .i64 a0), (.int .i64 1), (.int .i64 8)] h fun v10 h_1 =>
 oB (some v10) fun x10 =>
 xSc (!x10) false (fun J_1 =>
 Meets Try.prog 45 #[(.int .i64 a1), (.int .i64 1), (.int .i64 8)] h_1 fun v14 h_2 =>
 oB (some v14) fun x14 =>
 J_1 (!x14) h_2)
 (fun r16 h_3 =>
 xSc r16 false (fun J_2 =>
 Meets Try.prog 45 #[(.int .i64 a2), (.int .i64 1), (.int .i64 60)] h_3 fun v19 h_4 =>
 oB (some v19) fun x19 =>
 J_2 (!x19) h_4)
 (fun r21 h_5 =>
 xIte r21 (fun J_3 =>
 Q (.tuple #[(.pointer none), (.int .i64 1)]) h_5)
 (fun J_3 =>
 J_3 h_5)
 (fun  (h_6 : PH) =>
 xMake h_6 4 #[(.bool false)] 1 a0 a0 fun x24a x24l x24c h_7 =>
 xNew h_7 (.map #[] 0) fun b25 h_8 =>
 xNew h_8 (.map #[] 0) fun b26 h_9 =>
 xNew h_9 (.cells #[(.int .i64 a2), (.slice none 0 0), (.slice x24a x24l x24c), (.map (some b25)), (.map (some b26))] 45 (0, 0)) fun b28 h_10 =>
 xBlk (fun J_4 =>
 ∃ n, xLoopN (fun _ _ => False) (fun J_5 =>
 (fun (x30 : Int) (h_11 : PH) =>
 xIte (decide ((x30 : Int) < a1)) (fun J_6 =>
 J_6 h_11)
 (fun J_6 =>
 J_4 h_11)
 (fun  (h_12 : PH) =>
 xBlk (fun J_7 =>
 xNn (some (⟨b28, 0, none⟩ : Addr)) fun x34 =>
 oS (h_12.cell (x34.add 1)) fun x36a x36l x36c =>
 xNew h_12 (.cells #[(.int .i64 (-1)), (.int .i64 0), (.int .i64 0)] 117 (0, 0)) fun b38 h_13 =>
 xApp h_13 117 3 24 x36a x36l x36c (.slice (some (⟨b38, 0, none⟩ : Addr)) 1 1) fun x39a x39l x39c h_14 =>
 xNn (some (⟨b28, 0, none⟩ : Addr)) fun x40 =>
 xSt 1 h_14 (x40.add 1) [(.slice x39a x39l x39c)] fun h_15 =>
 J_7 h_15)
 (fun  (h_16 : PH) =>
 J_5 (IntKind.wrap .i64 (x30 + 1)) h_16)))) n 0 h_10)
 (fun  (h_17 : PH) =>
 Q (.tuple #[(.pointer (some (⟨b28, 0, none⟩ : Addr))), (.int .i64 0)]) h_17))) h_3) h_1
theorem P_model_New_eq (a0 : Int) (a1 : Int) (a2 : Int) (h : PH) (Q : Value → PH → Prop) : dFn Try.prog Try.f11 A_model_New #[(.int .i64 a0), (.int .i64 a1), (.int .i64 a2)] h Q = P_model_New a0 a1 a2 h Q := by kernel_rfl
theorem P_model_New_of {a0 : Int} {a1 : Int} {a2 : Int} {h : PH} {Q : Value → PH → Prop} (x : P_model_New a0 a1 a2 h Q) : Meets Try.prog 11 #[(.int .i64 a0), (.int .i64 a1), (.int .i64 a2)] h Q :=
  spec_of Try.func11 mix (by kernel_rfl) ((P_model_New_eq a0 a1 a2 h Q).symm ▸ x)
/-- (*futtock/model.Model).Clone -/
def A_model_Model_Clone : Ann := .seq (.leaf) (.seq (.seq (.leaf) (.cond [] (.seq (.leaf) (.leaf)) (.leaf))) (.seq (.draw [(0, .flt), (1, .flt), (2, .flt), (3, .flt), (4, .flt), (5, .flt), (6, .flt), (7, .flt), (9, .flt), (10, .flt), (11, .flt), (12, .flt), (14, .flt), (15, .flt), (16, .flt), (17, .flt), (19, .flt), (20, .flt), (21, .flt), (22, .flt), (8, .eff), (13, .eff), (18, .eff), (23, .eff), (24, .flt), (25, .eff), (26, .flt)]) (.leaf)))
def P_model_Model_Clone (a0 : Option Addr) (h : PH) (Q : Value → PH → Prop) : Prop :=
 Meets Try.prog 46 #[(.pointer a0)] h fun v4 h_1 =>
 oB (some v4) fun x4 =>
 xIte (!x4) (fun J_1 =>
 Q (.pointer none) h_1)
 (fun J_1 =>
 J_1 h_1)
 (fun  (h_2 : PH) =>
 xDraw h_2 fun hs_1 =>
 xNn a0 fun x7 =>
 oI .i64 (hs_1.cell (x7.add 0)) fun x9 =>
 xNn a0 fun x11 =>
 oS (hs_1.cell (x11.add 1)) fun x13a x13l x13c =>
 xNn a0 fun x16 =>
 oS (hs_1.cell (x16.add 2)) fun x18a x18l x18c =>
 xNn a0 fun x21 =>
 oM (hs_1.cell (x21.add 3)) fun x23 =>
 xNn a0 fun x26 =>
 oM (hs_1.cell (x26.add 4)) fun x28 =>
 Meets Try.prog 47 #[(.slice x13a x13l x13c)] h_2 fun v14 h_3 =>
 oS (some v14) fun x14a x14l x14c =>
 PH.le hs_1 h_3 ∧
 Meets Try.prog 48 #[(.slice x18a x18l x18c)] h_3 fun v19 h_4 =>
 oS (some v19) fun x19a x19l x19c =>
 PH.le hs_1 h_4 ∧
 Meets Try.prog 49 #[(.map x23)] h_4 fun v24 h_5 =>
 oM (some v24) fun x24 =>
 PH.le hs_1 h_5 ∧
 Meets Try.prog 50 #[(.map x28)] h_5 fun v29 h_6 =>
 oM (some v29) fun x29 =>
 PH.le hs_1 h_6 ∧
 xNew h_6 (.cells #[(.int .i64 x9), (.slice x14a x14l x14c), (.slice x19a x19l x19c), (.map x24), (.map x29)] 45 (0, 0)) fun b31 h_7 =>
 PH.le hs_1 h_7 ∧
 Q (.pointer (some (⟨b31, 0, none⟩ : Addr))) h_7)
theorem P_model_Model_Clone_eq (a0 : Option Addr) (h : PH) (Q : Value → PH → Prop) : dFn Try.prog Try.f13 A_model_Model_Clone #[(.pointer a0)] h Q = P_model_Model_Clone a0 h Q := by kernel_rfl
theorem P_model_Model_Clone_of {a0 : Option Addr} {h : PH} {Q : Value → PH → Prop} (x : P_model_Model_Clone a0 h Q) : Meets Try.prog 13 #[(.pointer a0)] h Q :=
  spec_of Try.func13 mix (by kernel_rfl) ((P_model_Model_Clone_eq a0 h Q).symm ▸ x)
/-- (*futtock/model.Model).Same -/
def A_model_Model_Same : Ann := .seq (.leaf) (.seq (.seq (.leaf) (.cond [] (.seq (.leaf) (.leaf)) (.leaf))) (.seq (.draw [(0, .flt), (1, .flt), (2, .flt), (3, .flt), (4, .flt), (5, .flt), (6, .flt), (7, .flt), (8, .flt), (9, .flt), (10, .flt), (11, .flt), (12, .flt), (13, .flt), (14, .flt), (15, .flt), (16, .flt), (17, .flt), (18, .eff), (19, .flt), (20, .flt), (21, .flt), (22, .flt), (23, .flt), (24, .flt), (25, .flt), (26, .flt), (27, .flt), (28, .flt), (29, .eff), (30, .flt), (31, .flt), (32, .flt), (33, .flt), (34, .flt), (35, .flt), (36, .flt), (37, .flt), (38, .flt), (39, .flt), (40, .eff), (41, .flt), (42, .flt), (43, .flt), (44, .flt), (45, .flt), (46, .flt), (47, .flt), (48, .flt), (49, .flt), (50, .flt), (51, .eff), (52, .flt), (53, .flt)]) (.leaf)))
def P_model_Model_Same (a0 : Option Addr) (a1 : Option Addr) (h : PH) (Q : Value → PH → Prop) : Prop :=
 Meets Try.prog 46 #[(.pointer a0)] h fun v6 h_1 =>
 oB (some v6) fun x6 =>
 xSc (!x6) false (fun J_1 =>
 Meets Try.prog 46 #[(.pointer a1)] h_1 fun v10 h_2 =>
 oB (some v10) fun x10 =>
 J_1 (!x10) h_2)
 (fun r12 h_3 =>
 xIte r12 (fun J_2 =>
 Meets Try.prog 46 #[(.pointer a0)] h_3 fun v14 h_4 =>
 oB (some v14) fun x14 =>
 Meets Try.prog 46 #[(.pointer a1)] h_4 fun v16 h_5 =>
 oB (some v16) fun x16 =>
 Q (.bool (x14 == x16)) h_5)
 (fun J_2 =>
 J_2 h_3)
 (fun  (h_6 : PH) =>
 xDraw h_6 fun hs_1 =>
 xNn a0 fun x19 =>
 oI .i64 (hs_1.cell (x19.add 0)) fun x21 =>
 xNn a1 fun x23 =>
 oI .i64 (hs_1.cell (x23.add 0)) fun x25 =>
 xSc (x21 == x25) true (fun J_3 =>
 xNn a0 fun x29 =>
 oS (hs_1.cell (x29.add 1)) fun x31a x31l x31c =>
 xNn a1 fun x33 =>
 oS (hs_1.cell (x33.add 1)) fun x35a x35l x35c =>
 Meets Try.prog 53 #[(.slice x31a x31l x31c), (.slice x35a x35l x35c)] h_6 fun v36 h_7 =>
 oB (some v36) fun x36 =>
 PH.le hs_1 h_7 ∧
 J_3 x36 h_7)
 (fun r37 h_8 =>
 xSc r37 true (fun J_4 =>
 xNn a0 fun x40 =>
 oS (hs_1.cell (x40.add 2)) fun x42a x42l x42c =>
 xNn a1 fun x44 =>
 oS (hs_1.cell (x44.add 2)) fun x46a x46l x46c =>
 Meets Try.prog 54 #[(.slice x42a x42l x42c), (.slice x46a x46l x46c)] h_8 fun v47 h_9 =>
 oB (some v47) fun x47 =>
 PH.le hs_1 h_9 ∧
 J_4 x47 h_9)
 (fun r48 h_10 =>
 xSc r48 true (fun J_5 =>
 xNn a0 fun x51 =>
 oM (hs_1.cell (x51.add 3)) fun x53 =>
 xNn a1 fun x55 =>
 oM (hs_1.cell (x55.add 3)) fun x57 =>
 Meets Try.prog 55 #[(.map x53), (.map x57)] h_10 fun v58 h_11 =>
 oB (some v58) fun x58 =>
 PH.le hs_1 h_11 ∧
 J_5 x58 h_11)
 (fun r59 h_12 =>
 xSc r59 true (fun J_6 =>
 xNn a0 fun x62 =>
 oM (hs_1.cell (x62.add 4)) fun x64 =>
 xNn a1 fun x66 =>
 oM (hs_1.cell (x66.add 4)) fun x68 =>
 Meets Try.prog 56 #[(.map x64), (.map x68)] h_12 fun v69 h_13 =>
 oB (some v69) fun x69 =>
 PH.le hs_1 h_13 ∧
 J_6 x69 h_13)
 (fun r70 h_14 =>
 Q (.bool r70) h_14) h_12) h_10) h_8) h_6)) h_1
theorem P_model_Model_Same_eq (a0 : Option Addr) (a1 : Option Addr) (h : PH) (Q : Value → PH → Prop) : dFn Try.prog Try.f16 A_model_Model_Same #[(.pointer a0), (.pointer a1)] h Q = P_model_Model_Same a0 a1 h Q := by kernel_rfl
theorem P_model_Model_Same_of {a0 : Option Addr} {a1 : Option Addr} {h : PH} {Q : Value → PH → Prop} (x : P_model_Model_Same a0 a1 h Q) : Meets Try.prog 16 #[(.pointer a0), (.pointer a1)] h Q :=
  spec_of Try.func16 mix (by kernel_rfl) ((P_model_Model_Same_eq a0 a1 h Q).symm ▸ x)
/-- slices.Clone[[]futtock/model.monitor,futtock/model.monitor] -/
def A_slices_Clone_model_monitor_model_monitor : Ann := .seq (.leaf) (.seq (.seq (.leaf) (.cond [] (.seq (.leaf) (.leaf)) (.leaf))) (.seq (.leaf) (.leaf)))
def P_slices_Clone_model_monitor_model_monitor (a0a : Option Addr) (a0l : Nat) (a0c : Nat) (h : PH) (Q : Value → PH → Prop) : Prop :=
 xIte (Option.isNone a0a) (fun J_1 =>
 Q (.slice none 0 0) h)
 (fun J_1 =>
 J_1 h)
 (fun  (h_1 : PH) =>
 xNew h_1 (.cells #[] 117 (0, 0)) fun b5 h_2 =>
 xApp h_2 117 3 24 (some (⟨b5, 0, none⟩ : Addr)) 0 0 (.slice a0a a0l a0c) fun x7a x7l x7c h_3 =>
 Q (.slice x7a x7l x7c) h_3)
theorem P_slices_Clone_model_monitor_model_monitor_eq (a0a : Option Addr) (a0l : Nat) (a0c : Nat) (h : PH) (Q : Value → PH → Prop) : dFn Try.prog Try.f47 A_slices_Clone_model_monitor_model_monitor #[(.slice a0a a0l a0c)] h Q = P_slices_Clone_model_monitor_model_monitor a0a a0l a0c h Q := by kernel_rfl
theorem P_slices_Clone_model_monitor_model_monitor_of {a0a : Option Addr} {a0l : Nat} {a0c : Nat} {h : PH} {Q : Value → PH → Prop} (x : P_slices_Clone_model_monitor_model_monitor a0a a0l a0c h Q) : Meets Try.prog 47 #[(.slice a0a a0l a0c)] h Q :=
  spec_of Try.func47 mix (by kernel_rfl) ((P_slices_Clone_model_monitor_model_monitor_eq a0a a0l a0c h Q).symm ▸ x)
/-- slices.Clone[[]bool,bool] -/
def A_slices_Clone_bool_bool : Ann := .seq (.leaf) (.seq (.seq (.leaf) (.cond [] (.seq (.leaf) (.leaf)) (.leaf))) (.seq (.leaf) (.leaf)))
def P_slices_Clone_bool_bool (a0a : Option Addr) (a0l : Nat) (a0c : Nat) (h : PH) (Q : Value → PH → Prop) : Prop :=
 xIte (Option.isNone a0a) (fun J_1 =>
 Q (.slice none 0 0) h)
 (fun J_1 =>
 J_1 h)
 (fun  (h_1 : PH) =>
 xNew h_1 (.cells #[] 4 (0, 0)) fun b5 h_2 =>
 xApp h_2 4 1 1 (some (⟨b5, 0, none⟩ : Addr)) 0 0 (.slice a0a a0l a0c) fun x7a x7l x7c h_3 =>
 Q (.slice x7a x7l x7c) h_3)
theorem P_slices_Clone_bool_bool_eq (a0a : Option Addr) (a0l : Nat) (a0c : Nat) (h : PH) (Q : Value → PH → Prop) : dFn Try.prog Try.f48 A_slices_Clone_bool_bool #[(.slice a0a a0l a0c)] h Q = P_slices_Clone_bool_bool a0a a0l a0c h Q := by kernel_rfl
theorem P_slices_Clone_bool_bool_of {a0a : Option Addr} {a0l : Nat} {a0c : Nat} {h : PH} {Q : Value → PH → Prop} (x : P_slices_Clone_bool_bool a0a a0l a0c h Q) : Meets Try.prog 48 #[(.slice a0a a0l a0c)] h Q :=
  spec_of Try.func48 mix (by kernel_rfl) ((P_slices_Clone_bool_bool_eq a0a a0l a0c h Q).symm ▸ x)
/-- slices.Equal[[]futtock/model.monitor,futtock/model.monitor] -/
def A_slices_Equal_model_monitor_model_monitor : Ann := .seq (.leaf) (.seq (.seq (.leaf) (.cond [] (.seq (.leaf) (.leaf)) (.leaf))) (.seq (.seq (.leaf) (.block [] (.loop [(13, (.int .i64))] (.seq (.leaf) (.seq (.cond [] (.leaf) (.leaf)) (.seq (.block [] (.seq (.leaf) (.seq (.draw [(0, .flt), (1, .flt), (2, .flt), (3, .flt), (4, .flt), (5, .flt), (6, .flt), (7, .flt), (8, .flt)]) (.cond [] (.seq (.leaf) (.leaf)) (.leaf))))) (.leaf))))))) (.seq (.leaf) (.leaf))))
def P_slices_Equal_model_monitor_model_monitor (a0a : Option Addr) (a0l : Nat) (a0c : Nat) (a1a : Option Addr) (a1l : Nat) (a1c : Nat) (h : PH) (Q : Value → PH → Prop) : Prop :=
 xIte (((a0l : Nat) : Int) != ((a1l : Nat) : Int)) (fun J_1 =>
 Q (.bool false) h)
 (fun J_1 =>
 J_1 h)
 (fun  (h_1 : PH) =>
 xBlk (fun J_2 =>
 ∃ n, xLoopN (fun _ _ => False) (fun J_3 =>
 (fun (x13 : Int) (h_2 : PH) =>
 xIte (decide ((x13 : Int) < ((a0l : Nat) : Int))) (fun J_4 =>
 J_4 h_2)
 (fun J_4 =>
 J_2 h_2)
 (fun  (h_3 : PH) =>
 xBlk (fun J_5 =>
 xDraw h_3 fun hs_1 =>
 xIdx a0a a0l x13 3 fun x18 =>
 oI .i64 (hs_1.cell (x18.add 0)) fun x19_0 =>
 oI .i64 (hs_1.cell (x18.add 1)) fun x19_1 =>
 oI .i64 (hs_1.cell (x18.add 2)) fun x19_2 =>
 xIdx a1a a1l x13 3 fun x22 =>
 oI .i64 (hs_1.cell (x22.add 0)) fun x23_0 =>
 oI .i64 (hs_1.cell (x22.add 1)) fun x23_1 =>
 oI .i64 (hs_1.cell (x22.add 2)) fun x23_2 =>
 xEq Try.prog 117 (.agg #[(.int .i64 x19_0), (.int .i64 x19_1), (.int .i64 x19_2)]) (.agg #[(.int .i64 x23_0), (.int .i64 x23_1), (.int .i64 x23_2)]) fun x24 =>
 xIte (!x24) (fun J_6 =>
 Q (.bool false) h_3)
 (fun J_6 =>
 J_6 h_3)
 (fun  (h_4 : PH) =>
 J_5 h_4))
 (fun  (h_5 : PH) =>
 J_3 (IntKind.wrap .i64 (x13 + 1)) h_5)))) n 0 h_1)
 (fun  (h_6 : PH) =>
 Q (.bool true) h_6))
theorem P_slices_Equal_model_monitor_model_monitor_eq (a0a : Option Addr) (a0l : Nat) (a0c : Nat) (a1a : Option Addr) (a1l : Nat) (a1c : Nat) (h : PH) (Q : Value → PH → Prop) : dFn Try.prog Try.f53 A_slices_Equal_model_monitor_model_monitor #[(.slice a0a a0l a0c), (.slice a1a a1l a1c)] h Q = P_slices_Equal_model_monitor_model_monitor a0a a0l a0c a1a a1l a1c h Q := by kernel_rfl
theorem P_slices_Equal_model_monitor_model_monitor_of {a0a : Option Addr} {a0l : Nat} {a0c : Nat} {a1a : Option Addr} {a1l : Nat} {a1c : Nat} {h : PH} {Q : Value → PH → Prop} (x : P_slices_Equal_model_monitor_model_monitor a0a a0l a0c a1a a1l a1c h Q) : Meets Try.prog 53 #[(.slice a0a a0l a0c), (.slice a1a a1l a1c)] h Q :=
  spec_of Try.func53 mix (by kernel_rfl) ((P_slices_Equal_model_monitor_model_monitor_eq a0a a0l a0c a1a a1l a1c h Q).symm ▸ x)
/-- slices.Equal[[]bool,bool] -/
def A_slices_Equal_bool_bool : Ann := .seq (.leaf) (.seq (.seq (.leaf) (.cond [] (.seq (.leaf) (.leaf)) (.leaf))) (.seq (.seq (.leaf) (.block [] (.loop [(13, (.int .i64))] (.seq (.leaf) (.seq (.cond [] (.leaf) (.leaf)) (.seq (.block [] (.seq (.leaf) (.seq (.draw [(0, .flt), (1, .flt), (2, .flt), (3, .flt), (4, .flt), (5, .flt), (6, .flt), (7, .flt), (8, .flt)]) (.cond [] (.seq (.leaf) (.leaf)) (.leaf))))) (.leaf))))))) (.seq (.leaf) (.leaf))))
def P_slices_Equal_bool_bool (a0a : Option Addr) (a0l : Nat) (a0c : Nat) (a1a : Option Addr) (a1l : Nat) (a1c : Nat) (h : PH) (Q : Value → PH → Prop) : Prop :=
 xIte (((a0l : Nat) : Int) != ((a1l : Nat) : Int)) (fun J_1 =>
 Q (.bool false) h)
 (fun J_1 =>
 J_1 h)
 (fun  (h_1 : PH) =>
 xBlk (fun J_2 =>
 ∃ n, xLoopN (fun _ _ => False) (fun J_3 =>
 (fun (x13 : Int) (h_2 : PH) =>
 xIte (decide ((x13 : Int) < ((a0l : Nat) : Int))) (fun J_4 =>
 J_4 h_2)
 (fun J_4 =>
 J_2 h_2)
 (fun  (h_3 : PH) =>
 xBlk (fun J_5 =>
 xDraw h_3 fun hs_1 =>
 xIdx a0a a0l x13 1 fun x18 =>
 oB (hs_1.cell x18) fun x19 =>
 xIdx a1a a1l x13 1 fun x22 =>
 oB (hs_1.cell x22) fun x23 =>
 xIte (!(x19 == x23)) (fun J_6 =>
 Q (.bool false) h_3)
 (fun J_6 =>
 J_6 h_3)
 (fun  (h_4 : PH) =>
 J_5 h_4))
 (fun  (h_5 : PH) =>
 J_3 (IntKind.wrap .i64 (x13 + 1)) h_5)))) n 0 h_1)
 (fun  (h_6 : PH) =>
 Q (.bool true) h_6))
theorem P_slices_Equal_bool_bool_eq (a0a : Option Addr) (a0l : Nat) (a0c : Nat) (a1a : Option Addr) (a1l : Nat) (a1c : Nat) (h : PH) (Q : Value → PH → Prop) : dFn Try.prog Try.f54 A_slices_Equal_bool_bool #[(.slice a0a a0l a0c), (.slice a1a a1l a1c)] h Q = P_slices_Equal_bool_bool a0a a0l a0c a1a a1l a1c h Q := by kernel_rfl
theorem P_slices_Equal_bool_bool_of {a0a : Option Addr} {a0l : Nat} {a0c : Nat} {a1a : Option Addr} {a1l : Nat} {a1c : Nat} {h : PH} {Q : Value → PH → Prop} (x : P_slices_Equal_bool_bool a0a a0l a0c a1a a1l a1c h Q) : Meets Try.prog 54 #[(.slice a0a a0l a0c), (.slice a1a a1l a1c)] h Q :=
  spec_of Try.func54 mix (by kernel_rfl) ((P_slices_Equal_bool_bool_eq a0a a0l a0c a1a a1l a1c h Q).symm ▸ x)
/-- maps.Equal[map[futtock/model.place]int,map[futtock/model.place]int,futtock/model.place,int] -/
def A_maps_Equal_map_model_place_int_map_model_place_int_model_place_int : Ann := .seq (.leaf) (.seq (.seq (.leaf) (.cond [] (.seq (.leaf) (.leaf)) (.leaf))) (.seq (.seq (.leaf) (.block [] (.loop [] (.seq (.leaf) (.seq (.cond [] (.leaf) (.leaf)) (.block [] (.seq (.leaf) (.seq (.leaf) (.seq (.leaf) (.cond [] (.seq (.leaf) (.leaf)) (.leaf))))))))))) (.seq (.leaf) (.leaf))))
def P_maps_Equal_map_model_place_int_map_model_place_int_model_place_int (a0 : Option Nat) (a1 : Option Nat) (h : PH) (Q : Value → PH → Prop) : Prop :=
 xLen h a0 fun x10 =>
 xLen h a1 fun x12 =>
 xIte (x10 != x12) (fun J_1 =>
 Q (.bool false) h)
 (fun J_1 =>
 J_1 h)
 (fun  (h_1 : PH) =>
 xRange h_1 a0 fun b15 h_2 =>
 xBlk (fun J_2 =>
 ∃ n, xLoopN (fun _ => False) (fun J_3 =>
 (fun  (h_3 : PH) =>
 xNext h_3 b15 (fun h_4 =>
 oB (some (.bool false)) fun x17 =>
 xIte x17 (fun J_4 =>
 J_4 h_4)
 (fun J_4 =>
 J_2 h_4)
 (fun  (h_6 : PH) =>
 xBlk (fun J_5 =>
 xEntry h_6 b15 fun x18k x18u =>
 oAgg x18k 2 fun x19cs =>
 oI .i64 x19cs[0]? fun x19_0 =>
 oI .i64 x19cs[1]? fun x19_1 =>
 oI .i64 (some x18u) fun x20 =>
 xNew h_6 (.cells #[(.int .i64 0), (.int .i64 0)] 122 (0, 0)) fun b5 h_7 =>
 xSt 2 h_7 (⟨b5, 0, none⟩ : Addr) [(.int .i64 x19_0), (.int .i64 x19_1)] fun h_8 =>
 oI .i64 (h_8.cell ((⟨b5, 0, none⟩ : Addr).add 0)) fun x23_0 =>
 oI .i64 (h_8.cell ((⟨b5, 0, none⟩ : Addr).add 1)) fun x23_1 =>
 xLook Try.prog 122 h_8 a1 (.agg #[(.int .i64 x23_0), (.int .i64 x23_1)]) fun x24o =>
 oI .i64 (some (Option.getD x24o (.int .i64 0))) fun x24 =>
 oI .i64 (some (.int .i64 x24)) fun x25 =>
 oB (some (.bool (x24o).isSome)) fun x26 =>
 xSc (!x26) false (fun J_6 =>
 J_6 (x20 != x25) h_8)
 (fun r33 h_9 =>
 xIte r33 (fun J_7 =>
 Q (.bool false) h_9)
 (fun J_7 =>
 J_7 h_9)
 (fun  (h_10 : PH) =>
 J_5 h_10)) h_8)
 (fun  (h_11 : PH) =>
 J_3 h_11)))
 (fun x16k x16u h_5 =>
 oB (some (.bool true)) fun x17_1 =>
 xIte x17_1 (fun J_8 =>
 J_8 h_5)
 (fun J_8 =>
 J_2 h_5)
 (fun  (h_12 : PH) =>
 xBlk (fun J_9 =>
 xEntry h_12 b15 fun x18k_1 x18u_1 =>
 oAgg x18k_1 2 fun x19cs_1 =>
 oI .i64 x19cs_1[0]? fun x19_0_1 =>
 oI .i64 x19cs_1[1]? fun x19_1_1 =>
 oI .i64 (some x18u_1) fun x20_1 =>
 xNew h_12 (.cells #[(.int .i64 0), (.int .i64 0)] 122 (0, 0)) fun b5_1 h_13 =>
 xSt 2 h_13 (⟨b5_1, 0, none⟩ : Addr) [(.int .i64 x19_0_1), (.int .i64 x19_1_1)] fun h_14 =>
 oI .i64 (h_14.cell ((⟨b5_1, 0, none⟩ : Addr).add 0)) fun x23_0_1 =>
 oI .i64 (h_14.cell ((⟨b5_1, 0, none⟩ : Addr).add 1)) fun x23_1_1 =>
 xLook Try.prog 122 h_14 a1 (.agg #[(.int .i64 x23_0_1), (.int .i64 x23_1_1)]) fun x24o_1 =>
 oI .i64 (some (Option.getD x24o_1 (.int .i64 0))) fun x24_1 =>
 oI .i64 (some (.int .i64 x24_1)) fun x25_1 =>
 oB (some (.bool (x24o_1).isSome)) fun x26_1 =>
 xSc (!x26_1) false (fun J_10 =>
 J_10 (x20_1 != x25_1) h_14)
 (fun r33_1 h_15 =>
 xIte r33_1 (fun J_11 =>
 Q (.bool false) h_15)
 (fun J_11 =>
 J_11 h_15)
 (fun  (h_16 : PH) =>
 J_9 h_16)) h_14)
 (fun  (h_17 : PH) =>
 J_3 h_17))))) n h_2)
 (fun  (h_18 : PH) =>
 Q (.bool true) h_18))
theorem P_maps_Equal_map_model_place_int_map_model_place_int_model_place_int_eq (a0 : Option Nat) (a1 : Option Nat) (h : PH) (Q : Value → PH → Prop) : dFn Try.prog Try.f55 A_maps_Equal_map_model_place_int_map_model_place_int_model_place_int #[(.map a0), (.map a1)] h Q = P_maps_Equal_map_model_place_int_map_model_place_int_model_place_int a0 a1 h Q := by kernel_rfl
theorem P_maps_Equal_map_model_place_int_map_model_place_int_model_place_int_of {a0 : Option Nat} {a1 : Option Nat} {h : PH} {Q : Value → PH → Prop} (x : P_maps_Equal_map_model_place_int_map_model_place_int_model_place_int a0 a1 h Q) : Meets Try.prog 55 #[(.map a0), (.map a1)] h Q :=
  spec_of Try.func55 mix (by kernel_rfl) ((P_maps_Equal_map_model_place_int_map_model_place_int_model_place_int_eq a0 a1 h Q).symm ▸ x)
/-- maps.Equal[map[futtock/model.place]futtock/model.left,map[futtock/model.place]futtock/model.left,futtock/model.place,futtock/model.left] -/
def A_maps_Equal_map_model_place_model_left_map_model_place_model_left_model_place_model_left : Ann := .seq (.leaf) (.seq (.seq (.leaf) (.cond [] (.seq (.leaf) (.leaf)) (.leaf))) (.seq (.seq (.leaf) (.block [] (.loop [] (.seq (.leaf) (.seq (.cond [] (.leaf) (.leaf)) (.block [] (.seq (.leaf) (.seq (.leaf) (.seq (.leaf) (.cond [] (.seq (.leaf) (.leaf)) (.leaf))))))))))) (.seq (.leaf) (.leaf))))
def P_maps_Equal_map_model_place_model_left_map_model_place_model_left_model_place_model_left (a0 : Option Nat) (a1 : Option Nat) (h : PH) (Q : Value → PH → Prop) : Prop :=
 xLen h a0 fun x10 =>
 xLen h a1 fun x12 =>
 xIte (x10 != x12) (fun J_1 =>
 Q (.bool false) h)
 (fun J_1 =>
 J_1 h)
 (fun  (h_1 : PH) =>
 xRange h_1 a0 fun b15 h_2 =>
 xBlk (fun J_2 =>
 ∃ n, xLoopN (fun _ => False) (fun J_3 =>
 (fun  (h_3 : PH) =>
 xNext h_3 b15 (fun h_4 =>
 oB (some (.bool false)) fun x17 =>
 xIte x17 (fun J_4 =>
 J_4 h_4)
 (fun J_4 =>
 J_2 h_4)
 (fun  (h_6 : PH) =>
 xBlk (fun J_5 =>
 xEntry h_6 b15 fun x18k x18u =>
 oAgg x18k 2 fun x19cs =>
 oI .i64 x19cs[0]? fun x19_0 =>
 oI .i64 x19cs[1]? fun x19_1 =>
 oAgg x18u 2 fun x20cs =>
 oI .i64 x20cs[0]? fun x20_0 =>
 oI .i64 x20cs[1]? fun x20_1 =>
 xNew h_6 (.cells #[(.int .i64 0), (.int .i64 0)] 122 (0, 0)) fun b5 h_7 =>
 xNew h_7 (.cells #[(.int .i64 0), (.int .i64 0)] 125 (0, 0)) fun b6 h_8 =>
 xSt 2 h_8 (⟨b5, 0, none⟩ : Addr) [(.int .i64 x19_0), (.int .i64 x19_1)] fun h_9 =>
 xSt 2 h_9 (⟨b6, 0, none⟩ : Addr) [(.int .i64 x20_0), (.int .i64 x20_1)] fun h_10 =>
 oI .i64 (h_10.cell ((⟨b5, 0, none⟩ : Addr).add 0)) fun x23_0 =>
 oI .i64 (h_10.cell ((⟨b5, 0, none⟩ : Addr).add 1)) fun x23_1 =>
 xLook Try.prog 122 h_10 a1 (.agg #[(.int .i64 x23_0), (.int .i64 x23_1)]) fun x24o =>
 oAgg (Option.getD x24o (.agg #[(.int .i64 0), (.int .i64 0)])) 2 fun x24cs =>
 oI .i64 x24cs[0]? fun x24_0 =>
 oI .i64 x24cs[1]? fun x24_1 =>
 oAgg (.agg #[(.int .i64 x24_0), (.int .i64 x24_1)]) 2 fun x25cs =>
 oI .i64 x25cs[0]? fun x25_0 =>
 oI .i64 x25cs[1]? fun x25_1 =>
 oB (some (.bool (x24o).isSome)) fun x26 =>
 xNew h_10 (.cells #[(.int .i64 0), (.int .i64 0)] 125 (0, 0)) fun b7 h_11 =>
 xSt 2 h_11 (⟨b7, 0, none⟩ : Addr) [(.int .i64 x25_0), (.int .i64 x25_1)] fun h_12 =>
 xSc (!x26) false (fun J_6 =>
 oI .i64 (h_12.cell ((⟨b6, 0, none⟩ : Addr).add 0)) fun x30_0 =>
 oI .i64 (h_12.cell ((⟨b6, 0, none⟩ : Addr).add 1)) fun x30_1 =>
 oI .i64 (h_12.cell ((⟨b7, 0, none⟩ : Addr).add 0)) fun x31_0 =>
 oI .i64 (h_12.cell ((⟨b7, 0, none⟩ : Addr).add 1)) fun x31_1 =>
 xEq Try.prog 125 (.agg #[(.int .i64 x30_0), (.int .i64 x30_1)]) (.agg #[(.int .i64 x31_0), (.int .i64 x31_1)]) fun x32 =>
 J_6 (!x32) h_12)
 (fun r33 h_13 =>
 xIte r33 (fun J_7 =>
 Q (.bool false) h_13)
 (fun J_7 =>
 J_7 h_13)
 (fun  (h_14 : PH) =>
 J_5 h_14)) h_12)
 (fun  (h_15 : PH) =>
 J_3 h_15)))
 (fun x16k x16u h_5 =>
 oB (some (.bool true)) fun x17_1 =>
 xIte x17_1 (fun J_8 =>
 J_8 h_5)
 (fun J_8 =>
 J_2 h_5)
 (fun  (h_16 : PH) =>
 xBlk (fun J_9 =>
 xEntry h_16 b15 fun x18k_1 x18u_1 =>
 oAgg x18k_1 2 fun x19cs_1 =>
 oI .i64 x19cs_1[0]? fun x19_0_1 =>
 oI .i64 x19cs_1[1]? fun x19_1_1 =>
 oAgg x18u_1 2 fun x20cs_1 =>
 oI .i64 x20cs_1[0]? fun x20_0_1 =>
 oI .i64 x20cs_1[1]? fun x20_1_1 =>
 xNew h_16 (.cells #[(.int .i64 0), (.int .i64 0)] 122 (0, 0)) fun b5_1 h_17 =>
 xNew h_17 (.cells #[(.int .i64 0), (.int .i64 0)] 125 (0, 0)) fun b6_1 h_18 =>
 xSt 2 h_18 (⟨b5_1, 0, none⟩ : Addr) [(.int .i64 x19_0_1), (.int .i64 x19_1_1)] fun h_19 =>
 xSt 2 h_19 (⟨b6_1, 0, none⟩ : Addr) [(.int .i64 x20_0_1), (.int .i64 x20_1_1)] fun h_20 =>
 oI .i64 (h_20.cell ((⟨b5_1, 0, none⟩ : Addr).add 0)) fun x23_0_1 =>
 oI .i64 (h_20.cell ((⟨b5_1, 0, none⟩ : Addr).add 1)) fun x23_1_1 =>
 xLook Try.prog 122 h_20 a1 (.agg #[(.int .i64 x23_0_1), (.int .i64 x23_1_1)]) fun x24o_1 =>
 oAgg (Option.getD x24o_1 (.agg #[(.int .i64 0), (.int .i64 0)])) 2 fun x24cs_1 =>
 oI .i64 x24cs_1[0]? fun x24_0_1 =>
 oI .i64 x24cs_1[1]? fun x24_1_1 =>
 oAgg (.agg #[(.int .i64 x24_0_1), (.int .i64 x24_1_1)]) 2 fun x25cs_1 =>
 oI .i64 x25cs_1[0]? fun x25_0_1 =>
 oI .i64 x25cs_1[1]? fun x25_1_1 =>
 oB (some (.bool (x24o_1).isSome)) fun x26_1 =>
 xNew h_20 (.cells #[(.int .i64 0), (.int .i64 0)] 125 (0, 0)) fun b7_1 h_21 =>
 xSt 2 h_21 (⟨b7_1, 0, none⟩ : Addr) [(.int .i64 x25_0_1), (.int .i64 x25_1_1)] fun h_22 =>
 xSc (!x26_1) false (fun J_10 =>
 oI .i64 (h_22.cell ((⟨b6_1, 0, none⟩ : Addr).add 0)) fun x30_0_1 =>
 oI .i64 (h_22.cell ((⟨b6_1, 0, none⟩ : Addr).add 1)) fun x30_1_1 =>
 oI .i64 (h_22.cell ((⟨b7_1, 0, none⟩ : Addr).add 0)) fun x31_0_1 =>
 oI .i64 (h_22.cell ((⟨b7_1, 0, none⟩ : Addr).add 1)) fun x31_1_1 =>
 xEq Try.prog 125 (.agg #[(.int .i64 x30_0_1), (.int .i64 x30_1_1)]) (.agg #[(.int .i64 x31_0_1), (.int .i64 x31_1_1)]) fun x32_1 =>
 J_10 (!x32_1) h_22)
 (fun r33_1 h_23 =>
 xIte r33_1 (fun J_11 =>
 Q (.bool false) h_23)
 (fun J_11 =>
 J_11 h_23)
 (fun  (h_24 : PH) =>
 J_9 h_24)) h_22)
 (fun  (h_25 : PH) =>
 J_3 h_25))))) n h_2)
 (fun  (h_26 : PH) =>
 Q (.bool true) h_26))
theorem P_maps_Equal_map_model_place_model_left_map_model_place_model_left_model_place_model_left_eq (a0 : Option Nat) (a1 : Option Nat) (h : PH) (Q : Value → PH → Prop) : dFn Try.prog Try.f56 A_maps_Equal_map_model_place_model_left_map_model_place_model_left_model_place_model_left #[(.map a0), (.map a1)] h Q = P_maps_Equal_map_model_place_model_left_map_model_place_model_left_model_place_model_left a0 a1 h Q := by kernel_rfl
theorem P_maps_Equal_map_model_place_model_left_map_model_place_model_left_model_place_model_left_of {a0 : Option Nat} {a1 : Option Nat} {h : PH} {Q : Value → PH → Prop} (x : P_maps_Equal_map_model_place_model_left_map_model_place_model_left_model_place_model_left a0 a1 h Q) : Meets Try.prog 56 #[(.map a0), (.map a1)] h Q :=
  spec_of Try.func56 mix (by kernel_rfl) ((P_maps_Equal_map_model_place_model_left_map_model_place_model_left_model_place_model_left_eq a0 a1 h Q).symm ▸ x)
end Go.Proofs.Ytnnedfhpicdacaa
