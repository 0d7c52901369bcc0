/- The readings of some functions, printed by a program of the session (wip/tools/sx.py): each by one equation that the kernel reckons. -/
import Derived.Test.YtnnedfhpicdacaaRows
import Derived.Test.YtnnedfhpicdacaaFM
import Derived.Test.YtnnedfhpicdacaaSx15
set_option linter.unusedVariables false
namespace Go.Proofs.Ytnnedfhpicdacaa
open Go Go.Sx Go.Proofs
def AA_model_threads_int : Ann := .leaf
def AB_model_threads_int : Ann := .block [] (.seq (.leaf) (.cond [] (.leaf) (.leaf)))
/-- A round of futtock/model.threads[int]. -/
def R_model_threads_int (y8 : Value) (y7 : Option Nat) (y5 : Addr) (y4 : Option Addr) (y4_1 : Nat) (y4_2 : Nat) (y3 : Addr) (y0 : Option Nat) (y1 : Int) (z0 : Int) (z1 : Int) (r : Loop) (l : Nat) (h : PH) (K : Value → PH → Prop) : Prop :=
 xNew h (.cells #[(.int .i64 0), (.int .i64 0)] 122 (0, 0)) fun b6 h_4 =>
 xSt 2 h_4 (⟨b6, 0, none⟩ : Addr) [(.int .i64 z0), (.int .i64 z1)] fun h_5 =>
 h_5 l = some (.loop r) ∧
 xBlk (fun J_1 =>
 oI .i64 ((h_5.upd l (.loop { r with state := .busy })).cell ((⟨b6, 0, none⟩ : Addr).add 0)) fun x11 =>
 oI .i64 ((h_5.upd l (.loop { r with state := .busy })).cell y3) fun x12 =>
 xIte (x11 == x12) (fun J_2 =>
 oS ((h_5.upd l (.loop { r with state := .busy })).cell y5) fun x14a x14l x14c =>
 oI .i64 ((h_5.upd l (.loop { r with state := .busy })).cell ((⟨b6, 0, none⟩ : Addr).add 1)) fun x16 =>
 xNew (h_5.upd l (.loop { r with state := .busy })) (.cells #[(.int .i64 x16)] 3 (0, 0)) fun b17 h_6 =>
 xApp h_6 3 1 8 x14a x14l x14c (.slice (some (⟨b17, 0, none⟩ : Addr)) 1 1) fun x18a x18l x18c h_7 =>
 xSt 1 h_7 y5 [(.slice x18a x18l x18c)] fun h_8 =>
 J_2 h_8)
 (fun J_2 =>
 J_2 (h_5.upd l (.loop { r with state := .busy })))
 (fun  (h_9 : PH) =>
 J_1 h_9))
 (fun  (h_10 : PH) =>
 h_10 l = some (.loop { r with state := .busy }) ∧ K (.bool true) (h_10.upd l (.loop { r with state := .ready, pending := none })))
theorem R_model_threads_int_eq (y8 : Value) (y7 : Option Nat) (y5 : Addr) (y4 : Option Addr) (y4_1 : Nat) (y4_2 : Nat) (y3 : Addr) (y0 : Option Nat) (y1 : Int) (z0 : Int) (z1 : Int) (r : Loop) (l : Nat) (h : PH) (K : Value → PH → Prop) : dCodeI Try.prog (rfAssign Try.f59) AA_model_threads_int [(9, (.agg #[(.int .i64 z0), (.int .i64 z1)])), (8, y8), (7, (.map y7)), (5, (.pointer (some y5))), (4, (.slice y4 y4_1 y4_2)), (3, (.pointer (some y3))), (0, (.map y0)), (1, (.int .i64 y1))] h (fun e1 h1 => h1 l = some (.loop r) ∧ dCodeI Try.prog (rfBody Try.f59) AB_model_threads_int e1 (h1.upd l (.loop { r with state := .busy })) (fun _ h2 => h2 l = some (.loop { r with state := .busy }) ∧ K (.bool true) (h2.upd l (.loop { r with state := .ready, pending := none }))) (fun _ _ _ => False) (fun _ _ => False)) (fun _ _ _ => False) (fun _ _ => False) = R_model_threads_int y8 y7 y5 y4 y4_1 y4_2 y3 y0 y1 z0 z1 r l h K := by kernel_rfl
/-- futtock/model.threads[int] -/
def A_model_threads_int : Ann := .seq (.leaf) (.seq (.leaf) (.seq (.seq (.leaf) (.block [] (.leaf))) (.seq (.leaf) (.seq (.leaf) (.leaf)))))
def P_model_threads_int (a0 : Option Nat) (a1 : Int) (h : PH) (Q : Value → PH → Prop) : Prop :=
 xNew h (.cells #[(.int .i64 a1)] 3 (0, 0)) fun b3 h_1 =>
 xNew h_1 (.cells #[(.slice none 0 0)] 47 (0, 0)) fun b5 h_2 =>
 Meets Try.prog 85 #[(.map a0)] h_2 fun v8 h_3 =>
 oV (some v8) fun x8 =>
 xRFv Try.prog x8 #[9] (rfAssign Try.f59) (rfBody Try.f59) [(8, x8), (7, (.map a0)), (5, (.pointer (some (⟨b5, 0, none⟩ : Addr)))), (4, (.slice none 0 0)), (3, (.pointer (some (⟨b3, 0, none⟩ : Addr)))), (0, (.map a0)), (1, (.int .i64 a1))] 22 h_3 fun b h_11 =>
 oS (h_11.cell (⟨b5, 0, none⟩ : Addr)) fun x19a x19l x19c =>
 Meets Try.prog 86 #[(.slice x19a x19l x19c)] h_11 fun v20 h_12 =>
 oTup v20 0 fun x20cs =>
 oS (h_12.cell (⟨b5, 0, none⟩ : Addr)) fun x21a x21l x21c =>
 marksOk [b] h_12 ∧
 Q (.slice x21a x21l x21c) (closeM [b] h_12)
theorem P_model_threads_int_eq (a0 : Option Nat) (a1 : Int) (h : PH) (Q : Value → PH → Prop) : dFnR Try.prog Try.f59 A_model_threads_int #[(.map a0), (.int .i64 a1)] h Q = P_model_threads_int a0 a1 h Q := by kernel_rfl
theorem P_model_threads_int_of {a0 : Option Nat} {a1 : Int} {h : PH} {Q : Value → PH → Prop} (x : P_model_threads_int a0 a1 h Q) : Meets Try.prog 59 #[(.map a0), (.int .i64 a1)] h Q :=
  specR_of Try.func59 (by kernel_rfl) ((P_model_threads_int_eq a0 a1 h Q).symm ▸ x)
def AA_model_threads_model_left : Ann := .leaf
def AB_model_threads_model_left : Ann := .block [] (.seq (.leaf) (.cond [] (.leaf) (.leaf)))
/-- A round of futtock/model.threads[futtock/model.left]. -/
def R_model_threads_model_left (y8 : Value) (y7 : Option Nat) (y5 : Addr) (y4 : Option Addr) (y4_1 : Nat) (y4_2 : Nat) (y3 : Addr) (y0 : Option Nat) (y1 : Int) (z0 : Int) (z1 : Int) (r : Loop) (l : Nat) (h : PH) (K : Value → PH → Prop) : Prop :=
 xNew h (.cells #[(.int .i64 0), (.int .i64 0)] 122 (0, 0)) fun b6 h_4 =>
 xSt 2 h_4 (⟨b6, 0, none⟩ : Addr) [(.int .i64 z0), (.int .i64 z1)] fun h_5 =>
 h_5 l = some (.loop r) ∧
 xBlk (fun J_1 =>
 oI .i64 ((h_5.upd l (.loop { r with state := .busy })).cell ((⟨b6, 0, none⟩ : Addr).add 0)) fun x11 =>
 oI .i64 ((h_5.upd l (.loop { r with state := .busy })).cell y3) fun x12 =>
 xIte (x11 == x12) (fun J_2 =>
 oS ((h_5.upd l (.loop { r with state := .busy })).cell y5) fun x14a x14l x14c =>
 oI .i64 ((h_5.upd l (.loop { r with state := .busy })).cell ((⟨b6, 0, none⟩ : Addr).add 1)) fun x16 =>
 xNew (h_5.upd l (.loop { r with state := .busy })) (.cells #[(.int .i64 x16)] 3 (0, 0)) fun b17 h_6 =>
 xApp h_6 3 1 8 x14a x14l x14c (.slice (some (⟨b17, 0, none⟩ : Addr)) 1 1) fun x18a x18l x18c h_7 =>
 xSt 1 h_7 y5 [(.slice x18a x18l x18c)] fun h_8 =>
 J_2 h_8)
 (fun J_2 =>
 J_2 (h_5.upd l (.loop { r with state := .busy })))
 (fun  (h_9 : PH) =>
 J_1 h_9))
 (fun  (h_10 : PH) =>
 h_10 l = some (.loop { r with state := .busy }) ∧ K (.bool true) (h_10.upd l (.loop { r with state := .ready, pending := none })))
theorem R_model_threads_model_left_eq (y8 : Value) (y7 : Option Nat) (y5 : Addr) (y4 : Option Addr) (y4_1 : Nat) (y4_2 : Nat) (y3 : Addr) (y0 : Option Nat) (y1 : Int) (z0 : Int) (z1 : Int) (r : Loop) (l : Nat) (h : PH) (K : Value → PH → Prop) : dCodeI Try.prog (rfAssign Try.f60) AA_model_threads_model_left [(9, (.agg #[(.int .i64 z0), (.int .i64 z1)])), (8, y8), (7, (.map y7)), (5, (.pointer (some y5))), (4, (.slice y4 y4_1 y4_2)), (3, (.pointer (some y3))), (0, (.map y0)), (1, (.int .i64 y1))] h (fun e1 h1 => h1 l = some (.loop r) ∧ dCodeI Try.prog (rfBody Try.f60) AB_model_threads_model_left e1 (h1.upd l (.loop { r with state := .busy })) (fun _ h2 => h2 l = some (.loop { r with state := .busy }) ∧ K (.bool true) (h2.upd l (.loop { r with state := .ready, pending := none }))) (fun _ _ _ => False) (fun _ _ => False)) (fun _ _ _ => False) (fun _ _ => False) = R_model_threads_model_left y8 y7 y5 y4 y4_1 y4_2 y3 y0 y1 z0 z1 r l h K := by kernel_rfl
/-- futtock/model.threads[futtock/model.left] -/
def A_model_threads_model_left : Ann := .seq (.leaf) (.seq (.leaf) (.seq (.seq (.leaf) (.block [] (.leaf))) (.seq (.leaf) (.seq (.leaf) (.leaf)))))
def P_model_threads_model_left (a0 : Option Nat) (a1 : Int) (h : PH) (Q : Value → PH → Prop) : Prop :=
 xNew h (.cells #[(.int .i64 a1)] 3 (0, 0)) fun b3 h_1 =>
 xNew h_1 (.cells #[(.slice none 0 0)] 47 (0, 0)) fun b5 h_2 =>
 Meets Try.prog 87 #[(.map a0)] h_2 fun v8 h_3 =>
 oV (some v8) fun x8 =>
 xRFv Try.prog x8 #[9] (rfAssign Try.f60) (rfBody Try.f60) [(8, x8), (7, (.map a0)), (5, (.pointer (some (⟨b5, 0, none⟩ : Addr)))), (4, (.slice none 0 0)), (3, (.pointer (some (⟨b3, 0, none⟩ : Addr)))), (0, (.map a0)), (1, (.int .i64 a1))] 22 h_3 fun b h_11 =>
 oS (h_11.cell (⟨b5, 0, none⟩ : Addr)) fun x19a x19l x19c =>
 Meets Try.prog 86 #[(.slice x19a x19l x19c)] h_11 fun v20 h_12 =>
 oTup v20 0 fun x20cs =>
 oS (h_12.cell (⟨b5, 0, none⟩ : Addr)) fun x21a x21l x21c =>
 marksOk [b] h_12 ∧
 Q (.slice x21a x21l x21c) (closeM [b] h_12)
theorem P_model_threads_model_left_eq (a0 : Option Nat) (a1 : Int) (h : PH) (Q : Value → PH → Prop) : dFnR Try.prog Try.f60 A_model_threads_model_left #[(.map a0), (.int .i64 a1)] h Q = P_model_threads_model_left a0 a1 h Q := by kernel_rfl
theorem P_model_threads_model_left_of {a0 : Option Nat} {a1 : Int} {h : PH} {Q : Value → PH → Prop} (x : P_model_threads_model_left a0 a1 h Q) : Meets Try.prog 60 #[(.map a0), (.int .i64 a1)] h Q :=
  specR_of Try.func60 (by kernel_rfl) ((P_model_threads_model_left_eq a0 a1 h Q).symm ▸ x)
/-- maps.Keys[map[futtock/model.place]int,futtock/model.place,int] -/
def A_maps_Keys_map_model_place_int_model_place_int : Ann := .seq (.leaf) (.seq (.leaf) (.leaf))
def P_maps_Keys_map_model_place_int_model_place_int (a0 : Option Nat) (h : PH) (Q : Value → PH → Prop) : Prop :=
 xNew h (.cells #[(.map a0)] 42 (0, 0)) fun b1 h_1 =>
 Q (.func (.func 105) #[] #[(.pointer (some (⟨b1, 0, none⟩ : Addr)))]) h_1
theorem P_maps_Keys_map_model_place_int_model_place_int_eq (a0 : Option Nat) (h : PH) (Q : Value → PH → Prop) : dFn Try.prog Try.f85 A_maps_Keys_map_model_place_int_model_place_int #[(.map a0)] h Q = P_maps_Keys_map_model_place_int_model_place_int a0 h Q := by kernel_rfl
theorem P_maps_Keys_map_model_place_int_model_place_int_of {a0 : Option Nat} {h : PH} {Q : Value → PH → Prop} (x : P_maps_Keys_map_model_place_int_model_place_int a0 h Q) : Meets Try.prog 85 #[(.map a0)] h Q :=
  spec_of Try.func85 mix (by kernel_rfl) ((P_maps_Keys_map_model_place_int_model_place_int_eq a0 h Q).symm ▸ x)
/-- maps.Keys[map[futtock/model.place]futtock/model.left,futtock/model.place,futtock/model.left] -/
def A_maps_Keys_map_model_place_model_left_model_place_model_left : Ann := .seq (.leaf) (.seq (.leaf) (.leaf))
def P_maps_Keys_map_model_place_model_left_model_place_model_left (a0 : Option Nat) (h : PH) (Q : Value → PH → Prop) : Prop :=
 xNew h (.cells #[(.map a0)] 43 (0, 0)) fun b1 h_1 =>
 Q (.func (.func 108) #[] #[(.pointer (some (⟨b1, 0, none⟩ : Addr)))]) h_1
theorem P_maps_Keys_map_model_place_model_left_model_place_model_left_eq (a0 : Option Nat) (h : PH) (Q : Value → PH → Prop) : dFn Try.prog Try.f87 A_maps_Keys_map_model_place_model_left_model_place_model_left #[(.map a0)] h Q = P_maps_Keys_map_model_place_model_left_model_place_model_left a0 h Q := by kernel_rfl
theorem P_maps_Keys_map_model_place_model_left_model_place_model_left_of {a0 : Option Nat} {h : PH} {Q : Value → PH → Prop} (x : P_maps_Keys_map_model_place_model_left_model_place_model_left a0 h Q) : Meets Try.prog 87 #[(.map a0)] h Q :=
  spec_of Try.func87 mix (by kernel_rfl) ((P_maps_Keys_map_model_place_model_left_model_place_model_left_eq a0 h Q).symm ▸ x)
end Go.Proofs.Ytnnedfhpicdacaa
