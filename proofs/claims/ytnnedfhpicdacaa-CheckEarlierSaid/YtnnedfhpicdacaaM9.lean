/-
  What is asked of a model.
-/
import Derived.Test.YtnnedfhpicdacaaM8
set_option linter.unusedSimpArgs false
set_option linter.unusedVariables false
namespace Go.Md
open Go Go.Sx Go.Proofs Go.Proofs.Ytnnedfhpicdacaa

def moA (m : Mo) : Value := .agg #[.int .i64 m.owner, .int .i64 m.count, .int .i64 m.hash]
/-- An object's monitor; that of none is nobody's. -/
def Ms.at (s : Ms) (o : Int) : Mo := if s.isObj o then s.mon o else ⟨-1, 0, 0⟩

theorem meets_at {h : PH} {L : ML} {s : Ms} (r : MRep h L s) (o : Int) : Meets Try.prog 58 #[mp L, .int .i64 o] h fun v h' => v = moA (s.at o) ∧ h' = h := by
  apply Meets.same
  apply P_model_Model_at_of
  unfold P_model_Model_at
  intro b nb
  obtain ⟨d1, d2, d3, d4, d5⟩ := r.off nb
  obtain ⟨c, c', cm⟩ := r.cm
  obtain ⟨j, co⟩ := r.co
  have l : h.le _ := PH.le_upd (O := .cells #[.int .i64 0, .int .i64 0, .int .i64 0] 117 (0, 0)) nb
  refine (meets_ok (r.new nb)).look ?_
  simp only [oB_some]
  refine xSc_or (!s.isObj o) (fun _ J hJ => ?_) ⟨fun hx => ?_, fun hx => ?_⟩
  · simp only [xNn_some, add_mk, cell_mk, upd_at, del_at, if_true, if_false, Option.bind_some, List.getElem?_toArray, List.getElem?_cons_succ, List.getElem?_cons_zero, oI_some, oS_some, oM_some, oB_some, oP_some, oT_some, xIdx_some, Nat.zero_add, Nat.add_zero, Nat.mul_one, d1, cm, wrap_len r.nm]
    refine (meets_in _ _ _).look ?_
    simp only [xNn_some, add_mk, cell_mk, upd_at, del_at, if_true, if_false, Option.bind_some, List.getElem?_toArray, List.getElem?_cons_succ, List.getElem?_cons_zero, oI_some, oS_some, oM_some, oB_some, oP_some, oT_some, xIdx_some, Nat.zero_add, Nat.add_zero, Nat.mul_one]
    exact hJ
  · refine xSt_mk (PH.upd_same _ _ _) rfl (by decide) (by simp [oneCell]) (by simp) ?_
    rw [PH.upd_upd, setN3]
    simp only [xNn_some, add_mk, cell_mk, upd_at, del_at, if_true, if_false, Option.bind_some, List.getElem?_toArray, List.getElem?_cons_succ, List.getElem?_cons_zero, oI_some, oS_some, oM_some, oB_some, oP_some, oT_some, xIdx_some, Nat.zero_add, Nat.add_zero, Nat.mul_one]
    have : s.isObj o = false := by simpa using hx
    exact ⟨by simp only [Ms.at, this, if_false, Bool.false_eq_true]; rfl, PH.le_upd nb⟩
  · have hi : s.isObj o = true := by simpa using hx
    have h0 : 0 ≤ o ∧ o < (s.mons.length : Int) ∧ o.toNat < s.mons.length := by
      simp only [Ms.isObj, Bool.and_eq_true, decide_eq_true_eq] at hi
      omega
    simp only [xNn_some, add_mk, cell_mk, upd_at, del_at, if_true, if_false, Option.bind_some, List.getElem?_toArray, List.getElem?_cons_succ, List.getElem?_cons_zero, oI_some, oS_some, oM_some, oB_some, oP_some, oT_some, xIdx_some, Nat.zero_add, Nat.add_zero, Nat.mul_one, d1, cm]
    refine ⟨h0.1, h0.2.1, ?_⟩
    simp only [xNn_some, add_mk, cell_mk, upd_at, del_at, if_true, if_false, Option.bind_some, List.getElem?_toArray, List.getElem?_cons_succ, List.getElem?_cons_zero, oI_some, oS_some, oM_some, oB_some, oP_some, oT_some, xIdx_some, Nat.zero_add, Nat.add_zero, Nat.mul_one, d2, co, moArr_0 h0.2.2, moArr_1 h0.2.2, moArr_2 h0.2.2]
    refine xSt_mk (PH.upd_same _ _ _) rfl (by decide) (by simp [oneCell]) (by simp) ?_
    rw [PH.upd_upd, setN3]
    simp only [xNn_some, add_mk, cell_mk, upd_at, del_at, if_true, if_false, Option.bind_some, List.getElem?_toArray, List.getElem?_cons_succ, List.getElem?_cons_zero, oI_some, oS_some, oM_some, oB_some, oP_some, oT_some, xIdx_some, Nat.zero_add, Nat.add_zero, Nat.mul_one]
    exact ⟨by simp only [Ms.at, hi, if_true]; rfl, PH.le_upd nb⟩

theorem meets_Owner {h : PH} {L : ML} {s : Ms} (r : MRep h L s) (o : Int) : Meets Try.prog 18 #[mp L, .int .i64 o] h fun v h' => v = .int .i64 (s.at o).owner ∧ h' = h := by
  apply P_model_Model_Owner_of
  unfold P_model_Model_Owner
  refine (meets_at r o).look ?_
  simp only [moA, oAgg_mk, xNn_some, add_mk, cell_mk, upd_at, del_at, if_true, if_false, Option.bind_some, List.getElem?_toArray, List.getElem?_cons_succ, List.getElem?_cons_zero, oI_some, oS_some, oM_some, oB_some, oP_some, oT_some, xIdx_some, Nat.zero_add, Nat.add_zero, Nat.mul_one]
  simp
theorem meets_Count {h : PH} {L : ML} {s : Ms} (r : MRep h L s) (o : Int) : Meets Try.prog 19 #[mp L, .int .i64 o] h fun v h' => v = .int .i64 (s.at o).count ∧ h' = h := by
  apply P_model_Model_Count_of
  unfold P_model_Model_Count
  refine (meets_at r o).look ?_
  simp only [moA, oAgg_mk, xNn_some, add_mk, cell_mk, upd_at, del_at, if_true, if_false, Option.bind_some, List.getElem?_toArray, List.getElem?_cons_succ, List.getElem?_cons_zero, oI_some, oS_some, oM_some, oB_some, oP_some, oT_some, xIdx_some, Nat.zero_add, Nat.add_zero, Nat.mul_one]
  simp
theorem meets_Hash {h : PH} {L : ML} {s : Ms} (r : MRep h L s) (o : Int) : Meets Try.prog 21 #[mp L, .int .i64 o] h fun v h' => v = .int .i64 (s.at o).hash ∧ h' = h := by
  apply P_model_Model_Hash_of
  unfold P_model_Model_Hash
  refine (meets_at r o).look ?_
  simp only [moA, oAgg_mk, xNn_some, add_mk, cell_mk, upd_at, del_at, if_true, if_false, Option.bind_some, List.getElem?_toArray, List.getElem?_cons_succ, List.getElem?_cons_zero, oI_some, oS_some, oM_some, oB_some, oP_some, oT_some, xIdx_some, Nat.zero_add, Nat.add_zero, Nat.mul_one]
  simp
theorem meets_Flag {h : PH} {L : ML} {s : Ms} (r : MRep h L s) (t : Int) : Meets Try.prog 17 #[mp L, .int .i64 t] h fun v h' => v = .bool (s.isThread t && s.flag t) ∧ h' = h := by
  apply P_model_Model_Flag_of
  unfold P_model_Model_Flag
  obtain ⟨c, c', cm⟩ := r.cm
  obtain ⟨j, cf⟩ := r.cf
  refine (meets_ok r).look ?_
  simp only [oB_some]
  refine xSc_and (s.isThread t) (fun _ J hJ => ?_) ?_
  · refine (meets_isThread r t).look ?_
    simp only [oB_some]
    exact hJ
  refine xSc_and (s.flag t) (fun hx J hJ => ?_) ⟨by simp, rfl⟩
  have hi : s.isThread t = true := by simpa using hx
  have h0 : 0 ≤ t ∧ t < (s.flags.length : Int) ∧ t.toNat < s.flags.length := by
    simp only [Ms.isThread, Bool.and_eq_true, decide_eq_true_eq] at hi
    omega
  simp only [xNn_some, add_mk, cell_mk, upd_at, del_at, if_true, if_false, Option.bind_some, List.getElem?_toArray, List.getElem?_cons_succ, List.getElem?_cons_zero, oI_some, oS_some, oM_some, oB_some, oP_some, oT_some, xIdx_some, Nat.zero_add, Nat.add_zero, Nat.mul_one, cm, cf, flArr_get h0.2.2]
  exact ⟨h0.1, h0.2.1, hJ⟩

end Go.Md
