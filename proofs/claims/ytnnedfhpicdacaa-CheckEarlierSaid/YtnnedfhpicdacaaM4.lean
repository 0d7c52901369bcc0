/-
  The model's functions that only look.
-/
import Derived.Test.YtnnedfhpicdacaaM3
set_option linter.unusedSimpArgs false
set_option linter.unusedVariables false
namespace Go.Md
open Go Go.Sx Go.Proofs Go.Proofs.Ytnnedfhpicdacaa

def evV (e : Ev) : Value := .agg #[.int .i64 e.kind, .int .i64 e.thread, .int .i64 e.obj, .int .i64 e.arg, .int .i64 e.err]
def mp (L : ML) : Value := .pointer (some ⟨L.m, 0, none⟩)

theorem wrap_len {n : Nat} (h : n ≤ 8) : IntKind.wrap .i64 ((n : Int) - 1) = (n : Int) - 1 := wrap64_id (by omega) (by omega)

theorem meets_in {h : PH} (a b c : Int) : Meets Try.prog 45 #[.int .i64 a, .int .i64 b, .int .i64 c] h fun v h' => v = .bool (decide (b ≤ a) && decide (a ≤ c)) ∧ h' = h := by
  apply P_model_in_of
  unfold P_model_in
  exact xSc_and _ (fun _ J hJ => hJ) ⟨rfl, rfl⟩

theorem meets_ok {h : PH} {L : ML} {s : Ms} (r : MRep h L s) : Meets Try.prog 46 #[mp L] h fun v h' => v = .bool true ∧ h' = h := by
  obtain ⟨c, c', cm⟩ := r.cm
  apply P_model_Model_ok_of
  unfold P_model_Model_ok
  refine xSc_and true (fun _ J hJ => ?_) ⟨rfl, rfl⟩
  simp only [xNn_some, add_mk, cell_mk, cm]
  exact ⟨_, rfl, hJ⟩
theorem meets_ok_nil {h : PH} : Meets Try.prog 46 #[.pointer none] h fun v h' => v = .bool false ∧ h' = h := by
  apply P_model_Model_ok_of
  unfold P_model_Model_ok
  exact xSc_and true (fun hb => by cases hb) ⟨rfl, rfl⟩

theorem meets_isThread {h : PH} {L : ML} {s : Ms} (r : MRep h L s) (t : Int) : Meets Try.prog 57 #[mp L, .int .i64 t] h fun v h' => v = .bool (s.isThread t) ∧ h' = h := by
  obtain ⟨c, c', cm⟩ := r.cm
  apply P_model_Model_isThread_of
  unfold P_model_Model_isThread
  simp only [xNn_some, add_mk, cell_mk, upd_at, del_at, if_true, if_false, Option.bind_some, List.getElem?_toArray, List.getElem?_cons_succ, List.getElem?_cons_zero, oI_some, oS_some, oM_some, oB_some, oP_some, oT_some, xIdx_some, Nat.zero_add, Nat.add_zero, Nat.mul_one, cm, wrap_len r.nf]
  refine (meets_in _ _ _).look ?_
  exact ⟨_, rfl, rfl, rfl⟩

/-- What is known of an event's object. -/
structure OIn (s : Ms) (o : Int) : Prop where
  h0 : 0 ≤ o
  h1 : o.toNat < s.mons.length
theorem OIn.lt {s : Ms} {o : Int} (x : OIn s o) : o < (s.mons.length : Int) := by have := x.h0; have := x.h1; omega

theorem meets_owns {h : PH} {L : ML} {s : Ms} (r : MRep h L s) (e : Ev) (ho : OIn s e.obj) : Meets Try.prog 104 #[mp L, evV e] h fun v h' => v = .bool (s.owns e) ∧ h' = h := by
  apply Meets.same
  apply P_model_Model_owns_of
  unfold P_model_Model_owns
  intro b hb
  obtain ⟨d1, d2, d3, d4, d5⟩ := r.off hb
  obtain ⟨c, c', cm⟩ := r.cm
  obtain ⟨j, co⟩ := r.co
  refine xDraw_self ?_
  simp only [xNn_some, add_mk, cell_mk, upd_at, del_at, if_true, if_false, Option.bind_some, List.getElem?_toArray, List.getElem?_cons_succ, List.getElem?_cons_zero, oI_some, oS_some, oM_some, oB_some, oP_some, oT_some, xIdx_some, Nat.zero_add, Nat.add_zero, Nat.mul_one, d1, d2, cm, co, moArr_0 ho.h1]
  exact ⟨ho.h0, ho.lt, rfl, PH.le_upd hb⟩

theorem meets_others {h : PH} {L : ML} {s : Ms} (r : MRep h L s) (e : Ev) (ho : OIn s e.obj) : Meets Try.prog 103 #[mp L, evV e] h fun v h' => v = .bool (s.others e) ∧ h' = h := by
  apply Meets.same
  apply P_model_Model_others_of
  unfold P_model_Model_others
  intro b hb
  obtain ⟨d1, d2, d3, d4, d5⟩ := r.off hb
  obtain ⟨c, c', cm⟩ := r.cm
  obtain ⟨j, co⟩ := r.co
  refine xDraw_self ?_
  simp only [xNn_some, add_mk, cell_mk, upd_at, del_at, if_true, if_false, Option.bind_some, List.getElem?_toArray, List.getElem?_cons_succ, List.getElem?_cons_zero, oI_some, oS_some, oM_some, oB_some, oP_some, oT_some, xIdx_some, Nat.zero_add, Nat.add_zero, Nat.mul_one]
  refine (meets_owns (r.new hb) e ho).look ?_
  simp only [xNn_some, add_mk, cell_mk, upd_at, del_at, if_true, if_false, Option.bind_some, List.getElem?_toArray, List.getElem?_cons_succ, List.getElem?_cons_zero, oI_some, oS_some, oM_some, oB_some, oP_some, oT_some, xIdx_some, Nat.zero_add, Nat.add_zero, Nat.mul_one, d1, d2, cm, co, moArr_0 ho.h1]
  refine ⟨PH.le_refl _, xSc_and ((s.mon e.obj).owner != -1) (fun _ J hJ => ⟨ho.h0, ho.lt, hJ⟩) ⟨rfl, PH.le_upd hb⟩⟩

theorem zero2 : Option.getD (none : Option Value) (.agg #[.int .i64 0, .int .i64 0]) = .agg #[.int .i64 0, .int .i64 0] := rfl

/-- What is read of a place that is looked up. -/
theorem look_int {o : Option Int} {K : Int → Prop} (k : K (o.getD 0)) : oI .i64 (some (Option.getD (o.map encI) (.int .i64 0))) K := by
  cases o <;> exact ⟨_, rfl, k⟩
theorem look_left {o : Option (Int × Int)} {K : Int → Int → Prop} (k : K (o.getD (0, 0)).1 (o.getD (0, 0)).2) :
    oAgg (Option.getD (o.map encL) (.agg #[.int .i64 0, .int .i64 0])) 2 fun cs => oI .i64 cs[0]? fun a => oI .i64 cs[1]? fun b => oAgg (.agg #[.int .i64 a, .int .i64 b]) 2 fun cs => oI .i64 cs[0]? fun a => oI .i64 cs[1]? fun b => K a b := by
  cases o <;> exact ⟨_, rfl, rfl, _, rfl, _, rfl, _, rfl, rfl, _, rfl, _, rfl, k⟩

theorem gone_eq (s : Ms) (t : Int) (n : Nat) (hn : n = s.mons.length) (h : ∀ o, o < n → ((s.waits.find o t).isSome || (s.left.find o t).isSome) = false) : s.gone t = false := by
  subst hn
  unfold Ms.gone
  rw [List.any_eq_false]
  intro o ho
  rw [h o (by simpa using ho)]; simp
theorem gone_eq_true (s : Ms) (t : Int) (o : Nat) (ho : o < s.mons.length) (h : ((s.waits.find o t).isSome || (s.left.find o t).isSome) = true) : s.gone t = true := by
  unfold Ms.gone
  rw [List.any_eq_true]
  exact ⟨o, by simpa using ho, h⟩

theorem meets_gone {h : PH} {L : ML} {s : Ms} (r : MRep h L s) (t : Int) : Meets Try.prog 76 #[mp L, .int .i64 t] h fun v h' => v = .bool (s.gone t) ∧ h' = h := by
  apply Meets.same
  apply P_model_Model_gone_of
  unfold P_model_Model_gone
  obtain ⟨c, c', cm⟩ := r.cm
  simp only [xNn_some, add_mk, cell_mk, upd_at, del_at, if_true, if_false, Option.bind_some, List.getElem?_toArray, List.getElem?_cons_succ, List.getElem?_cons_zero, oI_some, oS_some, oM_some, oB_some, oP_some, oT_some, xIdx_some, Nat.zero_add, Nat.add_zero, Nat.mul_one, cm]
  have hl := r.nm
  refine xLoop1 (fun (x : Int) h' => h.le h' ∧ 0 ≤ x ∧ x ≤ s.mons.length ∧ ∀ o : Nat, (o : Int) < x → ((s.waits.find o t).isSome || (s.left.find o t).isSome) = false) (fun x _ => ((s.mons.length : Int) - x).toNat) ?_ ⟨PH.le_refl h, by omega, by omega, fun o ho => by omega⟩
  intro J x h1 ⟨l1, h0, hx, hall⟩ hJ
  refine ⟨fun hc => ?_, fun hc => ?_⟩
  · have hc := of_decide_eq_true hc
    have r1 := r.le l1
    have cm1 := l1 _ _ cm
    simp only [xBlk, xNn_some, add_mk, cell_mk, upd_at, del_at, if_true, if_false, Option.bind_some, List.getElem?_toArray, List.getElem?_cons_succ, List.getElem?_cons_zero, oI_some, oS_some, oM_some, oB_some, oP_some, oT_some, xIdx_some, Nat.zero_add, Nat.add_zero, Nat.mul_one, cm1]
    refine look_rep r1.cw x t ?_
    refine look_int ?_
    refine look_rep r1.cl x t ?_
    refine look_left ?_
    intro b hb
    refine xSt_mk (PH.upd_same _ _ _) rfl (by decide) (by simp [oneCell]) (by decide) ?_
    rw [PH.upd_upd]
    have e1 : x = ((x.toNat : Nat) : Int) := by omega
    refine xSc_or _ (fun _ J hJ => hJ) ⟨fun hb' => ⟨?_, PH.le_trans l1 (PH.le_upd hb)⟩, fun hb' => ?_⟩
    · congr 1
      refine (gone_eq_true s t x.toNat (by omega) ?_).symm
      rw [← e1]; simpa using hb'
    · have hw : IntKind.wrap .i64 (x + 1) = x + 1 := wrap64_id (by omega) (by omega)
      rw [hw]
      refine hJ _ _ ⟨PH.le_trans l1 (PH.le_upd hb), by omega, by omega, fun o ho => ?_⟩ (by omega)
      by_cases ho' : (o : Int) < x
      · exact hall o ho'
      · have : (o : Int) = x := by omega
        rw [this]; simpa using hb'
  · have hc := of_decide_eq_false hc
    exact ⟨congrArg Value.bool (gone_eq s t s.mons.length rfl fun o ho => hall o (by omega)).symm, l1⟩

theorem meets_may {h : PH} {L : ML} {s : Ms} (r : MRep h L s) (e : Ev) : Meets Try.prog 51 #[mp L, evV e] h fun v h' => v = .bool (s.may e) ∧ h' = h := by
  apply Meets.same
  apply P_model_Model_may_of
  unfold P_model_Model_may
  intro b hb
  obtain ⟨d1, d2, d3, d4, d5⟩ := r.off hb
  obtain ⟨c, c', cm⟩ := r.cm
  have r1 := r.new (O := .cells #[.int .i64 e.kind, .int .i64 e.thread, .int .i64 e.obj, .int .i64 e.arg, .int .i64 e.err] 33 (0, 0)) hb
  refine xDraw_self ?_
  refine (meets_ok r1).look ?_
  simp only [xNn_some, add_mk, cell_mk, upd_at, del_at, if_true, if_false, Option.bind_some, List.getElem?_toArray, List.getElem?_cons_succ, List.getElem?_cons_zero, oI_some, oS_some, oM_some, oB_some, oP_some, oT_some, xIdx_some, Nat.zero_add, Nat.add_zero, Nat.mul_one]
  refine ⟨PH.le_refl _, xSc_and (s.isThread e.thread) (fun _ J hJ => ?_) ?_⟩
  · refine (meets_isThread r1 e.thread).look ?_
    simp only [xNn_some, add_mk, cell_mk, upd_at, del_at, if_true, if_false, Option.bind_some, List.getElem?_toArray, List.getElem?_cons_succ, List.getElem?_cons_zero, oI_some, oS_some, oM_some, oB_some, oP_some, oT_some, xIdx_some, Nat.zero_add, Nat.add_zero, Nat.mul_one]
    exact ⟨PH.le_refl _, hJ⟩
  refine xSc_and (s.isObj e.obj) (fun _ J hJ => ?_) ?_
  · simp only [xNn_some, add_mk, cell_mk, upd_at, del_at, if_true, if_false, Option.bind_some, List.getElem?_toArray, List.getElem?_cons_succ, List.getElem?_cons_zero, oI_some, oS_some, oM_some, oB_some, oP_some, oT_some, xIdx_some, Nat.zero_add, Nat.add_zero, Nat.mul_one, d1, cm, wrap_len r.nm]
    refine (meets_in _ _ _).look ?_
    simp only [xNn_some, add_mk, cell_mk, upd_at, del_at, if_true, if_false, Option.bind_some, List.getElem?_toArray, List.getElem?_cons_succ, List.getElem?_cons_zero, oI_some, oS_some, oM_some, oB_some, oP_some, oT_some, xIdx_some, Nat.zero_add, Nat.add_zero, Nat.mul_one]
    exact ⟨PH.le_refl _, hJ⟩
  refine xSc_and (e.kind == 5 || e.kind == 6 || !s.gone e.thread) (fun _ J hJ => ?_) ⟨by simp [Ms.may, Bool.and_assoc], PH.le_upd hb⟩
  simp only [xNn_some, add_mk, cell_mk, upd_at, del_at, if_true, if_false, Option.bind_some, List.getElem?_toArray, List.getElem?_cons_succ, List.getElem?_cons_zero, oI_some, oS_some, oM_some, oB_some, oP_some, oT_some, xIdx_some, Nat.zero_add, Nat.add_zero, Nat.mul_one]
  refine xSc_or (e.kind == 6) (fun _ J hJ => hJ) ?_
  refine xSc_or (!s.gone e.thread) (fun _ J hJ => ?_) hJ
  simp only [xNn_some, add_mk, cell_mk, upd_at, del_at, if_true, if_false, Option.bind_some, List.getElem?_toArray, List.getElem?_cons_succ, List.getElem?_cons_zero, oI_some, oS_some, oM_some, oB_some, oP_some, oT_some, xIdx_some, Nat.zero_add, Nat.add_zero, Nat.mul_one]
  refine (meets_gone r1 e.thread).look ?_
  simp only [xNn_some, add_mk, cell_mk, upd_at, del_at, if_true, if_false, Option.bind_some, List.getElem?_toArray, List.getElem?_cons_succ, List.getElem?_cons_zero, oI_some, oS_some, oM_some, oB_some, oP_some, oT_some, xIdx_some, Nat.zero_add, Nat.add_zero, Nat.mul_one]
  exact hJ

end Go.Md
