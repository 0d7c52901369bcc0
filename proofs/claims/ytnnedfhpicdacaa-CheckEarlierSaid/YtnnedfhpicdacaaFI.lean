/- The readings of some functions, printed by a program of the session (wip/tools/sx.py): each by one equation that the kernel reckons. -/
import Derived.Test.YtnnedfhpicdacaaRows
import Derived.Test.YtnnedfhpicdacaaSx14
set_option linter.unusedVariables false
namespace Go.Proofs.Ytnnedfhpicdacaa
open Go Go.Sx Go.Proofs
/-- maps.Keys[map[futtock/model.place]int,futtock/model.place,int]$1 -/
def A_maps_Keys_map_model_place_int_model_place_int_1 : Ann := .seq (.leaf) (.block [] (.loop [] (.seq (.leaf) (.seq (.cond [] (.leaf) (.leaf)) (.block [] (.seq (.leaf) (.seq (.leaf) (.cond [] (.leaf) (.leaf)))))))))
def P_maps_Keys_map_model_place_int_model_place_int_1 (y0 : Nat) (c0 : Nat) (h : PH) (Q : Value → PH → Prop) : Prop :=
 oM (h.cell (⟨c0, 0, none⟩ : Addr)) fun x4 =>
 xRange h x4 fun b5 h_1 =>
 xBlk (fun J_1 =>
 ∃ n, xLoopN (fun _ => False) (fun J_2 =>
 (fun  (h_2 : PH) =>
 xNext h_2 b5 (fun h_3 =>
 oB (some (.bool false)) fun x7 =>
 xIte x7 (fun J_3 =>
 J_3 h_3)
 (fun J_3 =>
 J_1 h_3)
 (fun  (h_5 : PH) =>
 xBlk (fun J_4 =>
 xEntry h_5 b5 fun x8k x8u =>
 oAgg x8k 2 fun x9cs =>
 oI .i64 x9cs[0]? fun x9_0 =>
 oI .i64 x9cs[1]? fun x9_1 =>
 xNew h_5 (.cells #[(.int .i64 0), (.int .i64 0)] 122 (0, 0)) fun b3 h_6 =>
 xSt 2 h_6 (⟨b3, 0, none⟩ : Addr) [(.int .i64 x9_0), (.int .i64 x9_1)] fun h_7 =>
 oI .i64 (h_7.cell ((⟨b3, 0, none⟩ : Addr).add 0)) fun x11_0 =>
 oI .i64 (h_7.cell ((⟨b3, 0, none⟩ : Addr).add 1)) fun x11_1 =>
 xYield Try.prog y0 #[(.agg #[(.int .i64 x11_0), (.int .i64 x11_1)])] h_7 fun v12 h_8 =>
 oB (some v12) fun x12 =>
 xIte (!x12) (fun J_5 =>
 Q (.tuple #[]) h_8)
 (fun J_5 =>
 J_5 h_8)
 (fun  (h_9 : PH) =>
 J_4 h_9))
 (fun  (h_10 : PH) =>
 J_2 h_10)))
 (fun x6k x6u h_4 =>
 oB (some (.bool true)) fun x7_1 =>
 xIte x7_1 (fun J_6 =>
 J_6 h_4)
 (fun J_6 =>
 J_1 h_4)
 (fun  (h_11 : PH) =>
 xBlk (fun J_7 =>
 xEntry h_11 b5 fun x8k_1 x8u_1 =>
 oAgg x8k_1 2 fun x9cs_1 =>
 oI .i64 x9cs_1[0]? fun x9_0_1 =>
 oI .i64 x9cs_1[1]? fun x9_1_1 =>
 xNew h_11 (.cells #[(.int .i64 0), (.int .i64 0)] 122 (0, 0)) fun b3_1 h_12 =>
 xSt 2 h_12 (⟨b3_1, 0, none⟩ : Addr) [(.int .i64 x9_0_1), (.int .i64 x9_1_1)] fun h_13 =>
 oI .i64 (h_13.cell ((⟨b3_1, 0, none⟩ : Addr).add 0)) fun x11_0_1 =>
 oI .i64 (h_13.cell ((⟨b3_1, 0, none⟩ : Addr).add 1)) fun x11_1_1 =>
 xYield Try.prog y0 #[(.agg #[(.int .i64 x11_0_1), (.int .i64 x11_1_1)])] h_13 fun v12_1 h_14 =>
 oB (some v12_1) fun x12_1 =>
 xIte (!x12_1) (fun J_8 =>
 Q (.tuple #[]) h_14)
 (fun J_8 =>
 J_8 h_14)
 (fun  (h_15 : PH) =>
 J_7 h_15))
 (fun  (h_16 : PH) =>
 J_2 h_16))))) n h_1)
 (fun  (h_17 : PH) =>
 Q (.tuple #[]) h_17)
theorem P_maps_Keys_map_model_place_int_model_place_int_1_eq (y0 : Nat) (c0 : Nat) (h : PH) (Q : Value → PH → Prop) : dFnI Try.prog Try.f105 A_maps_Keys_map_model_place_int_model_place_int_1 #[(.func (.yield y0) #[] #[]), (.pointer (some (⟨c0, 0, none⟩ : Addr)))] h Q = P_maps_Keys_map_model_place_int_model_place_int_1 y0 c0 h Q := by kernel_rfl
theorem P_maps_Keys_map_model_place_int_model_place_int_1_of {y0 : Nat} {c0 : Nat} {h : PH} {Q : Value → PH → Prop} (x : P_maps_Keys_map_model_place_int_model_place_int_1 y0 c0 h Q) : Meets Try.prog 105 #[(.func (.yield y0) #[] #[]), (.pointer (some (⟨c0, 0, none⟩ : Addr)))] h Q :=
  specI_of Try.func105 (by kernel_rfl) ((P_maps_Keys_map_model_place_int_model_place_int_1_eq y0 c0 h Q).symm ▸ x)
/-- maps.Keys[map[futtock/model.place]futtock/model.left,futtock/model.place,futtock/model.left]$1 -/
def A_maps_Keys_map_model_place_model_left_model_place_model_left_1 : Ann := .seq (.leaf) (.block [] (.loop [] (.seq (.leaf) (.seq (.cond [] (.leaf) (.leaf)) (.block [] (.seq (.leaf) (.seq (.leaf) (.cond [] (.leaf) (.leaf)))))))))
def P_maps_Keys_map_model_place_model_left_model_place_model_left_1 (y0 : Nat) (c0 : Nat) (h : PH) (Q : Value → PH → Prop) : Prop :=
 oM (h.cell (⟨c0, 0, none⟩ : Addr)) fun x4 =>
 xRange h x4 fun b5 h_1 =>
 xBlk (fun J_1 =>
 ∃ n, xLoopN (fun _ => False) (fun J_2 =>
 (fun  (h_2 : PH) =>
 xNext h_2 b5 (fun h_3 =>
 oB (some (.bool false)) fun x7 =>
 xIte x7 (fun J_3 =>
 J_3 h_3)
 (fun J_3 =>
 J_1 h_3)
 (fun  (h_5 : PH) =>
 xBlk (fun J_4 =>
 xEntry h_5 b5 fun x8k x8u =>
 oAgg x8k 2 fun x9cs =>
 oI .i64 x9cs[0]? fun x9_0 =>
 oI .i64 x9cs[1]? fun x9_1 =>
 xNew h_5 (.cells #[(.int .i64 0), (.int .i64 0)] 122 (0, 0)) fun b3 h_6 =>
 xSt 2 h_6 (⟨b3, 0, none⟩ : Addr) [(.int .i64 x9_0), (.int .i64 x9_1)] fun h_7 =>
 oI .i64 (h_7.cell ((⟨b3, 0, none⟩ : Addr).add 0)) fun x11_0 =>
 oI .i64 (h_7.cell ((⟨b3, 0, none⟩ : Addr).add 1)) fun x11_1 =>
 xYield Try.prog y0 #[(.agg #[(.int .i64 x11_0), (.int .i64 x11_1)])] h_7 fun v12 h_8 =>
 oB (some v12) fun x12 =>
 xIte (!x12) (fun J_5 =>
 Q (.tuple #[]) h_8)
 (fun J_5 =>
 J_5 h_8)
 (fun  (h_9 : PH) =>
 J_4 h_9))
 (fun  (h_10 : PH) =>
 J_2 h_10)))
 (fun x6k x6u h_4 =>
 oB (some (.bool true)) fun x7_1 =>
 xIte x7_1 (fun J_6 =>
 J_6 h_4)
 (fun J_6 =>
 J_1 h_4)
 (fun  (h_11 : PH) =>
 xBlk (fun J_7 =>
 xEntry h_11 b5 fun x8k_1 x8u_1 =>
 oAgg x8k_1 2 fun x9cs_1 =>
 oI .i64 x9cs_1[0]? fun x9_0_1 =>
 oI .i64 x9cs_1[1]? fun x9_1_1 =>
 xNew h_11 (.cells #[(.int .i64 0), (.int .i64 0)] 122 (0, 0)) fun b3_1 h_12 =>
 xSt 2 h_12 (⟨b3_1, 0, none⟩ : Addr) [(.int .i64 x9_0_1), (.int .i64 x9_1_1)] fun h_13 =>
 oI .i64 (h_13.cell ((⟨b3_1, 0, none⟩ : Addr).add 0)) fun x11_0_1 =>
 oI .i64 (h_13.cell ((⟨b3_1, 0, none⟩ : Addr).add 1)) fun x11_1_1 =>
 xYield Try.prog y0 #[(.agg #[(.int .i64 x11_0_1), (.int .i64 x11_1_1)])] h_13 fun v12_1 h_14 =>
 oB (some v12_1) fun x12_1 =>
 xIte (!x12_1) (fun J_8 =>
 Q (.tuple #[]) h_14)
 (fun J_8 =>
 J_8 h_14)
 (fun  (h_15 : PH) =>
 J_7 h_15))
 (fun  (h_16 : PH) =>
 J_2 h_16))))) n h_1)
 (fun  (h_17 : PH) =>
 Q (.tuple #[]) h_17)
theorem P_maps_Keys_map_model_place_model_left_model_place_model_left_1_eq (y0 : Nat) (c0 : Nat) (h : PH) (Q : Value → PH → Prop) : dFnI Try.prog Try.f108 A_maps_Keys_map_model_place_model_left_model_place_model_left_1 #[(.func (.yield y0) #[] #[]), (.pointer (some (⟨c0, 0, none⟩ : Addr)))] h Q = P_maps_Keys_map_model_place_model_left_model_place_model_left_1 y0 c0 h Q := by kernel_rfl
theorem P_maps_Keys_map_model_place_model_left_model_place_model_left_1_of {y0 : Nat} {c0 : Nat} {h : PH} {Q : Value → PH → Prop} (x : P_maps_Keys_map_model_place_model_left_model_place_model_left_1 y0 c0 h Q) : Meets Try.prog 108 #[(.func (.yield y0) #[] #[]), (.pointer (some (⟨c0, 0, none⟩ : Addr)))] h Q :=
  specI_of Try.func108 (by kernel_rfl) ((P_maps_Keys_map_model_place_model_left_model_place_model_left_1_eq y0 c0 h Q).symm ▸ x)
end Go.Proofs.Ytnnedfhpicdacaa
