/-
  A transition, whole; what is asked of a model.
-/
import Derived.Test.YtnnedfhpicdacaaT3
set_option linter.unusedSimpArgs false
set_option linter.unusedVariables false
namespace Go.Md
open Go Go.Sx Go.Proofs Go.Proofs.Ytnnedfhpicdacaa

/-- What an event must be, for a transition to be tried. -/
structure EvIn (s : Ms) (e : Ev) : Prop where
  o : OIn s e.obj
  t0 : 0 ≤ e.thread
  t1 : e.thread.toNat < s.flags.length

theorem Upd.trans {h h1 h' : PH} {L : ML} {s : Ms} {o : Option Ms} {v : Value} (x : Ext L.all h h1) (u : Upd h1 L s o v h') : Upd h L s o v h' := ⟨u.1, u.2.1, x.trans' u.2.2⟩

theorem upd_call {f : FuncId} {args : Array Value} {h h1 : PH} {L : ML} {s : Ms} {o : Option Ms} {Q : Value → PH → Prop} (m : Meets Try.prog f args h1 (Upd h1 L s o)) (x : Ext L.all h h1)
    (k : ∀ h', Upd h L s o (.bool o.isSome) h' → Q (.bool o.isSome) h') : Meets Try.prog f args h1 Q :=
  m.mono fun v h' u => by have := u.1; subst this; exact k h' (u.trans x)

set_option maxHeartbeats 1000000 in
theorem meets_apply {h : PH} {L : ML} {s : Ms} (r : MRep h L s) (e : Ev) (ei : EvIn s e) (few : s.waits.length ≤ 64) : Meets Try.prog 52 #[mp L, evV e] h (Upd h L s (s.apply e)) := by
  have hlt : e.thread < (s.flags.length : Int) := by have := ei.t1; have := ei.t0; omega
  have hfl := r.nf
  have hmf : ∀ x : Int, s.isThread x = true → 0 ≤ x ∧ x < (s.flags.length : Int) ∧ x.toNat < s.flags.length := by
    intro x hx
    simp only [Ms.isThread, Bool.and_eq_true, decide_eq_true_eq] at hx
    omega
  apply P_model_Model_apply_of
  unfold P_model_Model_apply
  intro b hb
  obtain ⟨d1, d2, d3, d4, d5⟩ := r.off hb
  have r1 := r.new (O := .cells #[.int .i64 e.kind, .int .i64 e.thread, .int .i64 e.obj, .int .i64 e.arg, .int .i64 e.err] 33 (0, 0)) hb
  have x1 : Ext L.all h _ := (Ext.refl L.all h).upd_new (O := .cells #[.int .i64 e.kind, .int .i64 e.thread, .int .i64 e.obj, .int .i64 e.arg, .int .i64 e.err] 33 (0, 0)) hb
  have eb : (h.upd b (.cells #[.int .i64 e.kind, .int .i64 e.thread, .int .i64 e.obj, .int .i64 e.arg, .int .i64 e.err] 33 (0, 0))) b = some (.cells #[.int .i64 e.kind, .int .i64 e.thread, .int .i64 e.obj, .int .i64 e.arg, .int .i64 e.err] 33 (0, 0)) := PH.upd_same _ _ _
  generalize h.upd b (.cells #[.int .i64 e.kind, .int .i64 e.thread, .int .i64 e.obj, .int .i64 e.arg, .int .i64 e.err] 33 (0, 0)) = h1 at r1 x1 eb ⊢
  obtain ⟨c, c', cm⟩ := r1.cm
  obtain ⟨j', cf⟩ := r1.cf
  try simp only [xNn_some, add_mk, cell_mk, upd_at, del_at, if_true, if_false, Option.bind_some, List.getElem?_toArray, List.getElem?_cons_succ, List.getElem?_cons_zero, oI_some, oS_some, oM_some, oB_some, oP_some, oT_some, xIdx_some, Nat.zero_add, Nat.add_zero, Nat.mul_one, eb, xBlk]
  -- Enter, Try
  have two : ∀ K : Bool → PH → Prop, K (e.kind == 1 || e.kind == 2) h1 → xIte (e.kind == 1) (fun J => J (e.kind == 1) h1) (fun J => J (e.kind == 2) h1) K := by
    intro K hK
    refine ⟨fun hc => ?_, fun hc => ?_⟩
    · rw [hc] at hK ⊢; exact hK
    · rw [hc] at hK; exact hK
  have call0 : ∀ {f : FuncId} {o : Option Ms} {h1 : PH}, Meets Try.prog f #[mp L, evV e] h1 (Upd h1 L s o) → Ext L.all h h1 → MRep h1 L s → (s.apply e = if e.arg = 0 then o else none) →
      xSc (e.arg == 0) true (fun J => Meets Try.prog f #[mp L, evV e] h1 fun v h' => oB (some v) fun x => J x h') (fun x h' => Upd h L s (s.apply e) (.bool x) h') h1 := by
    intro f o h1 m x r1 ha
    refine ⟨fun hb => ?_, fun hb => ?_⟩
    · have hb := beq_iff_eq.1 hb
      refine upd_call m x fun h' u => ?_
      simp only [oB_some]
      rw [ha, if_pos hb]; exact u
    · have hb' : (e.arg == 0) = false := hb
      have hb : e.arg ≠ 0 := by simpa using hb'
      rw [hb']
      exact Upd.no (o := s.apply e) (by rw [ha, if_neg hb]) r1 x
  refine two _ ⟨fun hc => ?_, fun hc => ?_⟩
  · simp only [Bool.or_eq_true, beq_iff_eq] at hc
    try simp only [xNn_some, add_mk, cell_mk, upd_at, del_at, if_true, if_false, Option.bind_some, List.getElem?_toArray, List.getElem?_cons_succ, List.getElem?_cons_zero, oI_some, oS_some, oM_some, oB_some, oP_some, oT_some, xIdx_some, Nat.zero_add, Nat.add_zero, Nat.mul_one, eb]
    exact call0 (meets_enter r1 e ei.o) x1 r1 (by unfold Ms.apply; rw [if_pos hc])
  have h12 : ¬(e.kind = 1 ∨ e.kind = 2) := by
    intro hk; simp only [Bool.or_eq_false_iff, beq_eq_false_iff_ne] at hc
    rcases hk with hk | hk
    · exact hc.1 hk
    · exact hc.2 hk
  clear two hc
  refine ⟨fun hc => ?_, fun hc => ?_⟩
  · have hc := beq_iff_eq.1 hc
    try simp only [xNn_some, add_mk, cell_mk, upd_at, del_at, if_true, if_false, Option.bind_some, List.getElem?_toArray, List.getElem?_cons_succ, List.getElem?_cons_zero, oI_some, oS_some, oM_some, oB_some, oP_some, oT_some, xIdx_some, Nat.zero_add, Nat.add_zero, Nat.mul_one, eb]
    exact call0 (meets_exit r1 e ei.o) x1 r1 (by unfold Ms.apply; rw [if_neg h12, if_pos hc])
  have h3 : e.kind ≠ 3 := by simpa using hc
  refine ⟨fun hc => ?_, fun hc => ?_⟩
  · have hc := beq_iff_eq.1 hc
    try simp only [xNn_some, add_mk, cell_mk, upd_at, del_at, if_true, if_false, Option.bind_some, List.getElem?_toArray, List.getElem?_cons_succ, List.getElem?_cons_zero, oI_some, oS_some, oM_some, oB_some, oP_some, oT_some, xIdx_some, Nat.zero_add, Nat.add_zero, Nat.mul_one, eb]
    exact call0 (meets_begin r1 e ei.o ei.t0 ei.t1) x1 r1 (by unfold Ms.apply; rw [if_neg h12, if_neg h3, if_pos hc])
  have h4 : e.kind ≠ 4 := by simpa using hc
  refine ⟨fun hc => ?_, fun hc => ?_⟩
  · have hc := beq_iff_eq.1 hc
    refine xDraw_self ?_
    try simp only [xNn_some, add_mk, cell_mk, upd_at, del_at, if_true, if_false, Option.bind_some, List.getElem?_toArray, List.getElem?_cons_succ, List.getElem?_cons_zero, oI_some, oS_some, oM_some, oB_some, oP_some, oT_some, xIdx_some, Nat.zero_add, Nat.add_zero, Nat.mul_one, eb, cm]
    refine xSc_or (e.err == 12 && s.flag e.thread) (fun _ J hJ => ?_) ?_
    · refine xSc_and (s.flag e.thread) (fun _ J hJ => ?_) hJ
      try simp only [xNn_some, add_mk, cell_mk, upd_at, del_at, if_true, if_false, Option.bind_some, List.getElem?_toArray, List.getElem?_cons_succ, List.getElem?_cons_zero, oI_some, oS_some, oM_some, oB_some, oP_some, oT_some, xIdx_some, Nat.zero_add, Nat.add_zero, Nat.mul_one, eb, cm, cf, flArr_get ei.t1]
      exact ⟨ei.t0, hlt, hJ⟩
    refine xSc_and (e.err == 13 || e.err == 12 && s.flag e.thread) (fun _ J hJ => hJ) ?_
    have ha : s.apply e = if (e.arg == 0 && (e.err == 13 || e.err == 12 && s.flag e.thread)) = true then s.leave e.obj e.thread e.err else none := by unfold Ms.apply; rw [if_neg h12, if_neg h3, if_neg h4, if_pos hc]
    refine ⟨fun hx => ?_, fun hx => ?_⟩
    · try simp only [xNn_some, add_mk, cell_mk, upd_at, del_at, if_true, if_false, Option.bind_some, List.getElem?_toArray, List.getElem?_cons_succ, List.getElem?_cons_zero, oI_some, oS_some, oM_some, oB_some, oP_some, oT_some, xIdx_some, Nat.zero_add, Nat.add_zero, Nat.mul_one, eb, cm]
      refine upd_call (meets_leave r1 _ _ _) x1 fun h' u => ?_
      simp only [oB_some]
      rw [ha, if_pos hx]; exact u
    · rw [hx]
      exact Upd.no (o := s.apply e) (by rw [ha, if_neg (by simp [hx])]) r1 x1
  have h5 : e.kind ≠ 5 := by simpa using hc
  refine ⟨fun hc => ?_, fun hc => ?_⟩
  · have hc := beq_iff_eq.1 hc
    try simp only [xNn_some, add_mk, cell_mk, upd_at, del_at, if_true, if_false, Option.bind_some, List.getElem?_toArray, List.getElem?_cons_succ, List.getElem?_cons_zero, oI_some, oS_some, oM_some, oB_some, oP_some, oT_some, xIdx_some, Nat.zero_add, Nat.add_zero, Nat.mul_one, eb]
    exact call0 (meets_end r1 e ei.o ei.t0 ei.t1) x1 r1 (by unfold Ms.apply; rw [if_neg h12, if_neg h3, if_neg h4, if_neg h5, if_pos hc])
  have h6 : e.kind ≠ 6 := by simpa using hc
  have three : ∀ K : Bool → PH → Prop, K (e.kind == 7 || (e.kind == 8 || e.kind == 9)) h1 → xIte (e.kind == 7) (fun J => J (e.kind == 7) h1) (fun J => xIte (e.kind == 8) (fun J => J (e.kind == 8) h1) (fun J => J (e.kind == 9) h1) (fun x h' => J x h')) K := by
    intro K hK
    refine ⟨fun hc => ?_, fun hc => ⟨fun hc' => ?_, fun hc' => ?_⟩⟩
    · rw [hc] at hK ⊢; exact hK
    · rw [hc, hc'] at hK; rw [hc']; exact hK
    · rw [hc, hc'] at hK; exact hK
  refine three _ ⟨fun hc => ?_, fun hc => ?_⟩
  · simp only [Bool.or_eq_true, beq_iff_eq] at hc
    try simp only [xNn_some, add_mk, cell_mk, upd_at, del_at, if_true, if_false, Option.bind_some, List.getElem?_toArray, List.getElem?_cons_succ, List.getElem?_cons_zero, oI_some, oS_some, oM_some, oB_some, oP_some, oT_some, xIdx_some, Nat.zero_add, Nat.add_zero, Nat.mul_one, eb]
    refine upd_call (meets_tell r1 few e ei.o) x1 fun h' u => ?_
    simp only [oB_some]
    rw [show s.apply e = s.tell e from by unfold Ms.apply; rw [if_neg h12, if_neg h3, if_neg h4, if_neg h5, if_neg h6, if_pos hc]]
    exact u
  have h789 : ¬(e.kind = 7 ∨ e.kind = 8 ∨ e.kind = 9) := by
    intro hk; simp only [Bool.or_eq_false_iff, beq_eq_false_iff_ne] at hc
    rcases hk with hk | hk | hk
    · exact hc.1 hk
    · exact hc.2.1 hk
    · exact hc.2.2 hk
  clear three hc call0
  refine ⟨fun hc => ?_, fun hc => ?_⟩
  · have hc := beq_iff_eq.1 hc
    try simp only [xNn_some, add_mk, cell_mk, upd_at, del_at, if_true, if_false, Option.bind_some, List.getElem?_toArray, List.getElem?_cons_succ, List.getElem?_cons_zero, oI_some, oS_some, oM_some, oB_some, oP_some, oT_some, xIdx_some, Nat.zero_add, Nat.add_zero, Nat.mul_one, eb]
    refine upd_call (meets_hash r1 e ei.o) x1 fun h' u => ?_
    simp only [oB_some]
    rw [show s.apply e = s.hash e from by unfold Ms.apply; rw [if_neg h12, if_neg h3, if_neg h4, if_neg h5, if_neg h6, if_neg h789, if_pos hc]]
    exact u
  have h10 : e.kind ≠ 10 := by simpa using hc
  refine ⟨fun hc => ?_, fun hc => ?_⟩
  · have hc := beq_iff_eq.1 hc
    try simp only [xNn_some, add_mk, cell_mk, upd_at, del_at, if_true, if_false, Option.bind_some, List.getElem?_toArray, List.getElem?_cons_succ, List.getElem?_cons_zero, oI_some, oS_some, oM_some, oB_some, oP_some, oT_some, xIdx_some, Nat.zero_add, Nat.add_zero, Nat.mul_one, eb]
    refine upd_call (meets_holds r1 e ei.o) x1 fun h' u => ?_
    simp only [oB_some]
    rw [show s.apply e = s.holds e from by unfold Ms.apply; rw [if_neg h12, if_neg h3, if_neg h4, if_neg h5, if_neg h6, if_neg h789, if_neg h10, if_pos hc]]
    exact u
  have h11 : e.kind ≠ 11 := by simpa using hc
  refine ⟨fun hc => ?_, fun hc => ?_⟩
  · have hc := beq_iff_eq.1 hc
    try simp only [xNn_some, add_mk, cell_mk, upd_at, del_at, if_true, if_false, Option.bind_some, List.getElem?_toArray, List.getElem?_cons_succ, List.getElem?_cons_zero, oI_some, oS_some, oM_some, oB_some, oP_some, oT_some, xIdx_some, Nat.zero_add, Nat.add_zero, Nat.mul_one, eb]
    have ha : s.apply e = if (e.err != 0 || !s.isThread e.arg) = true then none else some (s.setFlag e.arg true) := by unfold Ms.apply; rw [if_neg h12, if_neg h3, if_neg h4, if_neg h5, if_neg h6, if_neg h789, if_neg h10, if_neg h11, if_pos hc]
    refine xSc_or (!s.isThread e.arg) (fun _ J hJ => ?_) ⟨fun hx => ?_, fun hx => ?_⟩
    · refine (meets_isThread r1 e.arg).look ?_
      try simp only [xNn_some, add_mk, cell_mk, upd_at, del_at, if_true, if_false, Option.bind_some, List.getElem?_toArray, List.getElem?_cons_succ, List.getElem?_cons_zero, oI_some, oS_some, oM_some, oB_some, oP_some, oT_some, xIdx_some, Nat.zero_add, Nat.add_zero, Nat.mul_one]
      exact hJ
    · exact Upd.no (o := s.apply e) (by rw [ha, if_pos hx]) r1 x1
    · have ht : s.isThread e.arg = true := by
        cases h : s.isThread e.arg with
        | true => rfl
        | false => rw [h] at hx; simp at hx
      obtain ⟨i0, i1, i2⟩ := hmf _ ht
      refine xDraw_self ?_
      try simp only [xNn_some, add_mk, cell_mk, upd_at, del_at, if_true, if_false, Option.bind_some, List.getElem?_toArray, List.getElem?_cons_succ, List.getElem?_cons_zero, oI_some, oS_some, oM_some, oB_some, oP_some, oT_some, xIdx_some, Nat.zero_add, Nat.add_zero, Nat.mul_one, eb, cm]
      refine ⟨i0, i1, ?_⟩
      refine st_flag r1 i2 true fun O r2 => ?_
      exact Upd.yes (o := s.apply e) (by rw [ha, if_neg (by simp [hx])]) r2 (x1.upd_in (fb_in L))
  have h12' : e.kind ≠ 12 := by simpa using hc
  exact .no (by unfold Ms.apply; rw [if_neg h12, if_neg h3, if_neg h4, if_neg h5, if_neg h6, if_neg h789, if_neg h10, if_neg h11, if_neg h12']) r1 x1

theorem evIn_of_may {s : Ms} {e : Ev} (h : s.may e = true) : EvIn s e := by
  simp only [Ms.may, Ms.isThread, Ms.isObj, Bool.and_eq_true, decide_eq_true_eq] at h
  obtain ⟨⟨⟨a, b⟩, c, d⟩, _⟩ := h
  exact ⟨⟨c, by omega⟩, a, by omega⟩

theorem meets_Apply {h : PH} {L : ML} {s : Ms} (r : MRep h L s) (e : Ev) (few : s.waits.length ≤ 64) :
    Meets Try.prog 14 #[mp L, evV e] h fun v h' => v = .int .i64 (s.code e) ∧ MRep h' L (s.next e) ∧ Ext L.all h h' := by
  apply P_model_Model_Apply_of
  unfold P_model_Model_Apply
  intro b hb
  have r1 := r.new (O := .cells #[.int .i64 e.kind, .int .i64 e.thread, .int .i64 e.obj, .int .i64 e.arg, .int .i64 e.err] 33 (0, 0)) hb
  have x1 : Ext L.all h _ := (Ext.refl L.all h).upd_new (O := .cells #[.int .i64 e.kind, .int .i64 e.thread, .int .i64 e.obj, .int .i64 e.arg, .int .i64 e.err] 33 (0, 0)) hb
  have eb : (h.upd b (.cells #[.int .i64 e.kind, .int .i64 e.thread, .int .i64 e.obj, .int .i64 e.arg, .int .i64 e.err] 33 (0, 0))) b = some (.cells #[.int .i64 e.kind, .int .i64 e.thread, .int .i64 e.obj, .int .i64 e.arg, .int .i64 e.err] 33 (0, 0)) := PH.upd_same _ _ _
  generalize h.upd b (.cells #[.int .i64 e.kind, .int .i64 e.thread, .int .i64 e.obj, .int .i64 e.arg, .int .i64 e.err] 33 (0, 0)) = h1 at r1 x1 eb ⊢
  try simp only [xNn_some, add_mk, cell_mk, upd_at, del_at, if_true, if_false, Option.bind_some, List.getElem?_toArray, List.getElem?_cons_succ, List.getElem?_cons_zero, oI_some, oS_some, oM_some, oB_some, oP_some, oT_some, xIdx_some, Nat.zero_add, Nat.add_zero, Nat.mul_one, eb]
  refine (meets_may r1 e).look ?_
  try simp only [xNn_some, add_mk, cell_mk, upd_at, del_at, if_true, if_false, Option.bind_some, List.getElem?_toArray, List.getElem?_cons_succ, List.getElem?_cons_zero, oI_some, oS_some, oM_some, oB_some, oP_some, oT_some, xIdx_some, Nat.zero_add, Nat.add_zero, Nat.mul_one, eb]
  cases hm : s.may e with
  | false =>
    refine ⟨fun hx => (by cases hx), fun _ => ⟨fun _ => ?_, fun hx => (by cases hx)⟩⟩
    have hs : s.step e = none := by simp only [Ms.step, hm, if_false, Bool.false_eq_true]
    refine ⟨by simp only [Ms.code, hs]; rfl, ?_, x1⟩
    rw [show s.next e = s from by simp only [Ms.next, hs]; rfl]
    exact r1
  | true =>
    refine ⟨fun _ => ?_, fun hx => (by cases hx)⟩
    refine upd_call (meets_apply r1 e (evIn_of_may hm) few) x1 fun h' u => ?_
    simp only [oB_some]
    have hs : s.step e = s.apply e := by simp only [Ms.step, hm, if_true]
    refine ⟨fun hx => ?_, fun hx => ?_⟩
    · have : s.apply e = none := by simpa using hx
      refine ⟨by simp only [Ms.code, hs, this]; rfl, ?_, u.2.2⟩
      rw [show s.next e = (s.apply e).getD s from by simp only [Ms.next, hs]]
      exact u.2.1
    · have : (s.apply e).isSome = true := by simpa using hx
      refine ⟨by simp only [Ms.code, hs, this, if_true], ?_, u.2.2⟩
      rw [show s.next e = (s.apply e).getD s from by simp only [Ms.next, hs]]
      exact u.2.1

end Go.Md
