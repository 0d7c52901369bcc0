/-
  Waiters, Left; the tellers: Wake, Notify, All.
-/
import Derived.Test.YtnnedfhpicdacaaT2
import Derived.Test.YtnnedfhpicdacaaM5
set_option linter.unusedSimpArgs false
set_option linter.unusedVariables false
namespace Go.Md
open Go Go.Sx Go.Proofs Go.Proofs.Ytnnedfhpicdacaa

theorem IntsAt.from {g h h' : PH} {v : Value} {l : List Int} (le : g.le h) (i : IntsAt h h' v l) : IntsAt g h' v l := by
  obtain ⟨p, n, c, S, e, i, l', nS⟩ := i
  exact ⟨p, n, c, S, e, i, PH.le_trans le l', fun b hb => none_of le (nS b hb)⟩

theorem meets_Waiters {h : PH} {L : ML} {s : Ms} (r : MRep h L s) (few : s.waits.length ≤ 64) (o : Int) : Meets Try.prog 22 #[mp L, .int .i64 o] h fun v h' => IntsAt h h' v (sortI (s.waiters o)) := by
  obtain ⟨c, c', cm⟩ := r.cm
  apply P_model_Model_Waiters_of
  unfold P_model_Model_Waiters
  refine (meets_ok r).look ?_
  simp only [xNn_some, add_mk, cell_mk, upd_at, del_at, if_true, if_false, Option.bind_some, List.getElem?_toArray, List.getElem?_cons_succ, List.getElem?_cons_zero, oI_some, oS_some, oM_some, oB_some, oP_some, oT_some, xIdx_some, Nat.zero_add, Nat.add_zero, Nat.mul_one]
  refine ⟨fun hx => (by cases hx), fun _ => ?_⟩
  simp only [xNn_some, add_mk, cell_mk, upd_at, del_at, if_true, if_false, Option.bind_some, List.getElem?_toArray, List.getElem?_cons_succ, List.getElem?_cons_zero, oI_some, oS_some, oM_some, oB_some, oP_some, oT_some, xIdx_some, Nat.zero_add, Nat.add_zero, Nat.mul_one, cm]
  refine (meets_threads_waits r.cw few o).mono ?_
  rintro v h' i
  obtain ⟨p, n, c, S, rfl, i2⟩ := i
  simp only [xNn_some, add_mk, cell_mk, upd_at, del_at, if_true, if_false, Option.bind_some, List.getElem?_toArray, List.getElem?_cons_succ, List.getElem?_cons_zero, oI_some, oS_some, oM_some, oB_some, oP_some, oT_some, xIdx_some, Nat.zero_add, Nat.add_zero, Nat.mul_one]
  exact ⟨p, n, c, S, rfl, i2⟩

theorem meets_Left {h : PH} {L : ML} {s : Ms} (r : MRep h L s) (few : s.left.length ≤ 64) (o : Int) : Meets Try.prog 23 #[mp L, .int .i64 o] h fun v h' => IntsAt h h' v (sortI (s.leavers o)) := by
  obtain ⟨c, c', cm⟩ := r.cm
  apply P_model_Model_Left_of
  unfold P_model_Model_Left
  refine (meets_ok r).look ?_
  simp only [xNn_some, add_mk, cell_mk, upd_at, del_at, if_true, if_false, Option.bind_some, List.getElem?_toArray, List.getElem?_cons_succ, List.getElem?_cons_zero, oI_some, oS_some, oM_some, oB_some, oP_some, oT_some, xIdx_some, Nat.zero_add, Nat.add_zero, Nat.mul_one]
  refine ⟨fun hx => (by cases hx), fun _ => ?_⟩
  simp only [xNn_some, add_mk, cell_mk, upd_at, del_at, if_true, if_false, Option.bind_some, List.getElem?_toArray, List.getElem?_cons_succ, List.getElem?_cons_zero, oI_some, oS_some, oM_some, oB_some, oP_some, oT_some, xIdx_some, Nat.zero_add, Nat.add_zero, Nat.mul_one, cm]
  refine (meets_threads_left r.cl few o).mono ?_
  rintro v h' i
  obtain ⟨p, n, c, S, rfl, i2⟩ := i
  simp only [xNn_some, add_mk, cell_mk, upd_at, del_at, if_true, if_false, Option.bind_some, List.getElem?_toArray, List.getElem?_cons_succ, List.getElem?_cons_zero, oI_some, oS_some, oM_some, oB_some, oP_some, oT_some, xIdx_some, Nat.zero_add, Nat.add_zero, Nat.mul_one]
  exact ⟨p, n, c, S, rfl, i2⟩

theorem Upd.from {h h1 h' : PH} {L : ML} {s : Ms} {o : Option Ms} {v : Value} (x : Ext L.all h h1) (u : Upd h1 L s o v h') : Upd h L s o v h' := ⟨u.1, u.2.1, x.trans' u.2.2⟩

theorem meets_tell {h : PH} {L : ML} {s : Ms} (r : MRep h L s) (few : s.waits.length ≤ 64) (e : Ev) (ho : OIn s e.obj) : Meets Try.prog 82 #[mp L, evV e] h (Upd h L s (s.tell e)) := by
  apply P_model_Model_tell_of
  unfold P_model_Model_tell
  intro b hb
  have r1 := r.new (O := .cells #[.int .i64 e.kind, .int .i64 e.thread, .int .i64 e.obj, .int .i64 e.arg, .int .i64 e.err] 33 (0, 0)) hb
  have x1 : Ext L.all h _ := (Ext.refl L.all h).upd_new (O := .cells #[.int .i64 e.kind, .int .i64 e.thread, .int .i64 e.obj, .int .i64 e.arg, .int .i64 e.err] 33 (0, 0)) hb
  have eb : (h.upd b (.cells #[.int .i64 e.kind, .int .i64 e.thread, .int .i64 e.obj, .int .i64 e.arg, .int .i64 e.err] 33 (0, 0))) b = some (.cells #[.int .i64 e.kind, .int .i64 e.thread, .int .i64 e.obj, .int .i64 e.arg, .int .i64 e.err] 33 (0, 0)) := PH.upd_same _ _ _
  generalize h.upd b (.cells #[.int .i64 e.kind, .int .i64 e.thread, .int .i64 e.obj, .int .i64 e.arg, .int .i64 e.err] 33 (0, 0)) = h1 at r1 x1 eb ⊢
  simp only [xNn_some, add_mk, cell_mk, upd_at, del_at, if_true, if_false, Option.bind_some, List.getElem?_toArray, List.getElem?_cons_succ, List.getElem?_cons_zero, oI_some, oS_some, oM_some, oB_some, oP_some, oT_some, xIdx_some, Nat.zero_add, Nat.add_zero, Nat.mul_one, eb]
  refine (meets_owns r1 e ho).look ?_
  simp only [xNn_some, add_mk, cell_mk, upd_at, del_at, if_true, if_false, Option.bind_some, List.getElem?_toArray, List.getElem?_cons_succ, List.getElem?_cons_zero, oI_some, oS_some, oM_some, oB_some, oP_some, oT_some, xIdx_some, Nat.zero_add, Nat.add_zero, Nat.mul_one, eb]
  refine (meets_Waiters r1 few e.obj).mono ?_
  rintro v h2 ⟨sp, sn, sc, S, rfl, i, l2, nS⟩
  have hn : sn = (s.waiters e.obj).length := i.1.trans (sortI_length _)
  have r2 := r1.le l2
  have x2 : Ext L.all h h2 := x1.trans' (Ext.of_le l2)
  have eb2 := l2 _ _ eb
  clear i l2 nS r1 x1 eb
  subst hn
  have hcast : ∀ n : Nat, (((n : Nat) : Int) == 0) = (n == 0) := fun n => by
    by_cases h : n = 0
    · subst h; rfl
    · have h1 : ((n : Int) == 0) = false := by simpa using h
      have h2 : (n == 0) = false := by simpa using h
      rw [h1, h2]
  simp only [xNn_some, add_mk, cell_mk, upd_at, del_at, if_true, if_false, Option.bind_some, List.getElem?_toArray, List.getElem?_cons_succ, List.getElem?_cons_zero, oI_some, oS_some, oM_some, oB_some, oP_some, oT_some, xIdx_some, Nat.zero_add, Nat.add_zero, Nat.mul_one, eb2, xBlk, hcast]
  refine ⟨fun hc => ?_, fun hc => ?_⟩
  · have hc := beq_iff_eq.1 hc
    refine xSc_and (s.owns e) (fun _ J hJ => hJ) ?_
    have key : s.tell e = if (e.err == 0 && s.owns e) = true then s.leave e.obj e.arg 0 else none := by unfold Ms.tell; rw [if_pos hc]
    refine ⟨fun hx => ?_, fun hx => ?_⟩
    · simp only [xNn_some, add_mk, cell_mk, upd_at, del_at, if_true, if_false, Option.bind_some, List.getElem?_toArray, List.getElem?_cons_succ, List.getElem?_cons_zero, oI_some, oS_some, oM_some, oB_some, oP_some, oT_some, xIdx_some, Nat.zero_add, Nat.add_zero, Nat.mul_one, eb2]
      refine (meets_leave r2 e.obj e.arg 0).mono ?_
      intro v h3 u
      have := u.1
      subst this
      simp only [oB_some]
      have u' := Upd.from x2 u
      rw [key, if_pos hx]
      exact u'
    · rw [hx]
      exact .no (by rw [key, if_neg (by simp [hx])]) r2 x2
  have h7 : e.kind ≠ 7 := by simpa using hc
  refine ⟨fun hc => ?_, fun hc => ?_⟩
  · have hc := beq_iff_eq.1 hc
    have key : s.tell e = if (!s.owns e && (e.kind == 9 && e.arg == 0 || e.kind == 8 && e.arg == -1)) = true then some s else none := by unfold Ms.tell; rw [if_neg h7, if_pos hc]
    refine xSc_and (e.kind == 9 && e.arg == 0 || e.kind == 8 && e.arg == -1) (fun _ J hJ => ?_) (.look _ key r2 x2)
    refine xSc_and (e.arg == 0) (fun _ J hJ => hJ) ?_
    refine xSc_or (e.kind == 8 && e.arg == -1) (fun _ J hJ => ?_) hJ
    simp only [xNn_some, add_mk, cell_mk, upd_at, del_at, if_true, if_false, Option.bind_some, List.getElem?_toArray, List.getElem?_cons_succ, List.getElem?_cons_zero, oI_some, oS_some, oM_some, oB_some, oP_some, oT_some, xIdx_some, Nat.zero_add, Nat.add_zero, Nat.mul_one, eb2]
    exact xSc_and (e.arg == -1) (fun _ J hJ => hJ) hJ
  have h9 : e.err ≠ 9 := by simpa using hc
  refine xSc_or (!s.owns e) (fun _ J hJ => hJ) ?_
  refine ⟨fun hx => ?_, fun hx => ?_⟩
  · exact .no (by unfold Ms.tell; rw [if_neg h7, if_neg h9, if_pos hx]) r2 x2
  have hx' : ¬(e.err != 0 || !s.owns e) = true := by simp [hx]
  simp only [xNn_some, add_mk, cell_mk, upd_at, del_at, if_true, if_false, Option.bind_some, List.getElem?_toArray, List.getElem?_cons_succ, List.getElem?_cons_zero, oI_some, oS_some, oM_some, oB_some, oP_some, oT_some, xIdx_some, Nat.zero_add, Nat.add_zero, Nat.mul_one, eb2, hcast]
  refine ⟨fun hk => ?_, fun hk => ?_⟩
  · have hk' := beq_iff_eq.1 hk
    have key : s.tell e = if (e.arg == 0 && (s.waiters e.obj).length == 0) = true then some s else none := by unfold Ms.tell; rw [if_neg h7, if_neg h9, if_neg hx', if_pos hk']
    exact xSc_and ((s.waiters e.obj).length == 0) (fun _ J hJ => hJ) (.look _ key r2 x2)
  have hk' : e.kind ≠ 9 := by simpa using hk
  have key : s.tell e = if (s.isThread e.arg || e.arg == -1 && (s.waiters e.obj).length == 0) = true then some s else none := by unfold Ms.tell; rw [if_neg h7, if_neg h9, if_neg hx', if_neg hk']
  simp only [xNn_some, add_mk, cell_mk, upd_at, del_at, if_true, if_false, Option.bind_some, List.getElem?_toArray, List.getElem?_cons_succ, List.getElem?_cons_zero, oI_some, oS_some, oM_some, oB_some, oP_some, oT_some, xIdx_some, Nat.zero_add, Nat.add_zero, Nat.mul_one, eb2]
  refine (meets_isThread r2 e.arg).look ?_
  simp only [xNn_some, add_mk, cell_mk, upd_at, del_at, if_true, if_false, Option.bind_some, List.getElem?_toArray, List.getElem?_cons_succ, List.getElem?_cons_zero, oI_some, oS_some, oM_some, oB_some, oP_some, oT_some, xIdx_some, Nat.zero_add, Nat.add_zero, Nat.mul_one, eb2, hcast]
  refine xSc_or (e.arg == -1 && (s.waiters e.obj).length == 0) (fun _ J hJ => ?_) (.look _ key r2 x2)
  exact xSc_and ((s.waiters e.obj).length == 0) (fun _ J hJ => hJ) hJ

end Go.Md
