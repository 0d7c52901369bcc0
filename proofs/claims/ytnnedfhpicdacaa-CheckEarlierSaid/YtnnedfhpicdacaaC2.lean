/-
  Calls in memory; whether a call may be; how many calls the model takes as they stand.
-/
import Derived.Test.YtnnedfhpicdacaaC0
import Derived.Test.YtnnedfhpicdacaaSx17
import Derived.Test.YtnnedfhpicdacaaE1
import Derived.Test.YtnnedfhpicdacaaFC
set_option linter.unusedSimpArgs false
set_option linter.unusedVariables false
namespace Go.Ck
open Go Go.Sx Go.Md Go.Proofs Go.Proofs.Ytnnedfhpicdacaa

def clL (c : Cl) : List Value := [.int .i64 c.event.kind, .int .i64 c.event.thread, .int .i64 c.event.obj, .int .i64 c.event.arg, .int .i64 c.event.err, .int .i64 c.fr, .int .i64 c.to]
theorem clL_len (c : Cl) : (clL c).length = 7 := rfl
theorem clL_one (c : Cl) : ∀ v ∈ clL c, oneCell v = true := by simp [clL, oneCell]
abbrev ClsAt := RecsAt clL 7
theorem cls_at {h : PH} {a : Option Addr} {l : List Cl} (x : ClsAt h a l) {i : Nat} {c : Cl} (hi : l[i]? = some c) : ∃ b, a = some b ∧ h.cell ((b.add (i * 7)).add 0) = some (.int .i64 c.event.kind) ∧ h.cell ((b.add (i * 7)).add 1) = some (.int .i64 c.event.thread) ∧ h.cell ((b.add (i * 7)).add 2) = some (.int .i64 c.event.obj) ∧
    h.cell ((b.add (i * 7)).add 3) = some (.int .i64 c.event.arg) ∧ h.cell ((b.add (i * 7)).add 4) = some (.int .i64 c.event.err) ∧ h.cell ((b.add (i * 7)).add 5) = some (.int .i64 c.fr) ∧ h.cell ((b.add (i * 7)).add 6) = some (.int .i64 c.to) := by
  obtain ⟨b, hb, hc⟩ := x.at_ i c hi
  exact ⟨b, hb, hc 0 _ rfl, hc 1 _ rfl, hc 2 _ rfl, hc 3 _ rfl, hc 4 _ rfl, hc 5 _ rfl, hc 6 _ rfl⟩
def clV (c : Cl) : Value := .agg (clL c).toArray

theorem meets_cMay {h : PH} (c : Cl) : Meets Try.prog 29 #[clV c] h fun v h' => v = .bool c.may ∧ h' = h := by
  apply Meets.same
  apply P_check_May_of
  unfold P_check_May
  refine xNew_intro fun b h1 l nb eb => ?_
  simp only [xNn_some, add_mk, cell_mk, upd_at, del_at, if_true, if_false, Option.bind_some, List.getElem?_toArray, List.getElem?_cons_succ, List.getElem?_cons_zero, oI_some, oS_some, oM_some, oB_some, oP_some, oT_some, xIdx_some, Nat.zero_add, Nat.add_zero, Nat.mul_one, eb, xBlk]
  refine ⟨fun hx => ?_, fun hx => ?_⟩
  · exact ⟨by unfold Cl.may; rw [if_pos hx], l⟩
  have hx' : ¬decide (c.fr ≥ c.to) = true := by rw [hx]; simp
  simp only [xNn_some, add_mk, cell_mk, upd_at, del_at, if_true, if_false, Option.bind_some, List.getElem?_toArray, List.getElem?_cons_succ, List.getElem?_cons_zero, oI_some, oS_some, oM_some, oB_some, oP_some, oT_some, xIdx_some, Nat.zero_add, Nat.add_zero, Nat.mul_one, eb]
  have six : ∀ K : Bool → PH → Prop, K (c.event.kind == 1 || (c.event.kind == 2 || (c.event.kind == 3 || (c.event.kind == 9 || (c.event.kind == 11 || c.event.kind == 12))))) h1 →
      xIte (c.event.kind == 1) (fun J => J (c.event.kind == 1) h1) (fun J => xIte (c.event.kind == 2) (fun J => J (c.event.kind == 2) h1) (fun J => xIte (c.event.kind == 3) (fun J => J (c.event.kind == 3) h1) (fun J => xIte (c.event.kind == 9) (fun J => J (c.event.kind == 9) h1) (fun J => xIte (c.event.kind == 11) (fun J => J (c.event.kind == 11) h1) (fun J => J (c.event.kind == 12) h1) (fun x h' => J x h')) (fun x h' => J x h')) (fun x h' => J x h')) (fun x h' => J x h')) K := by
    intro K hK
    cases e1 : (c.event.kind == 1) <;> cases e2 : (c.event.kind == 2) <;> cases e3 : (c.event.kind == 3) <;> cases e4 : (c.event.kind == 9) <;> cases e5 : (c.event.kind == 11) <;> simp only [e1, e2, e3, e4, e5, Bool.true_or, Bool.false_or] at hK <;> simp [xIte, hK]
  refine six _ ⟨fun hk => ?_, fun hk => ?_⟩
  · refine ⟨?_, l⟩
    unfold Cl.may
    rw [if_neg hx', if_pos (by simp at hk; omega)]
  have nk : ¬(c.event.kind = 1 ∨ c.event.kind = 2 ∨ c.event.kind = 3 ∨ c.event.kind = 9 ∨ c.event.kind = 11 ∨ c.event.kind = 12) := by
    simp at hk; omega
  refine ⟨fun h8 => ?_, fun h8 => ?_⟩
  · have h8 := beq_iff_eq.1 h8
    simp only [xNn_some, add_mk, cell_mk, upd_at, del_at, if_true, if_false, Option.bind_some, List.getElem?_toArray, List.getElem?_cons_succ, List.getElem?_cons_zero, oI_some, oS_some, oM_some, oB_some, oP_some, oT_some, xIdx_some, Nat.zero_add, Nat.add_zero, Nat.mul_one, eb]
    exact ⟨by unfold Cl.may; rw [if_neg hx', if_neg nk, if_pos h8], l⟩
  have n8 : c.event.kind ≠ 8 := by simpa using h8
  refine ⟨fun h10 => ?_, fun h10 => ?_⟩
  · have h10 := beq_iff_eq.1 h10
    simp only [xNn_some, add_mk, cell_mk, upd_at, del_at, if_true, if_false, Option.bind_some, List.getElem?_toArray, List.getElem?_cons_succ, List.getElem?_cons_zero, oI_some, oS_some, oM_some, oB_some, oP_some, oT_some, xIdx_some, Nat.zero_add, Nat.add_zero, Nat.mul_one, eb]
    exact ⟨by unfold Cl.may; rw [if_neg hx', if_neg nk, if_neg n8, if_pos h10], l⟩
  have n10 : c.event.kind ≠ 10 := by simpa using h10
  exact ⟨by unfold Cl.may; rw [if_neg hx', if_neg nk, if_neg n8, if_neg n10], l⟩

end Go.Ck
