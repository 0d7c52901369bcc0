/-
  A thread's words.
-/
import Derived.Test.YtnnedfhpicdacaaG0
import Derived.Test.YtnnedfhpicdacaaFG
import Derived.Test.YtnnedfhpicdacaaM8
import Derived.Test.YtnnedfhpicdacaaSx11
set_option linter.unusedSimpArgs false
set_option linter.unusedVariables false
namespace Go.Gh
open Go Go.Sx Go.Md Go.Proofs Go.Proofs.Ytnnedfhpicdacaa

def oqL (o : Oq) : List Value := [.int .i64 o.kind, .int .i64 o.obj, .int .i64 o.arg]
def evL (e : Ev) : List Value := [.int .i64 e.kind, .int .i64 e.thread, .int .i64 e.obj, .int .i64 e.arg, .int .i64 e.err]
def thL (t : Th) : List Value := [.int .i64 t.op.kind, .int .i64 t.op.obj, .int .i64 t.op.arg, .int .i64 t.calls, .bool t.opn, .int .i64 t.many, .int .i64 t.last.kind, .int .i64 t.last.thread, .int .i64 t.last.obj, .int .i64 t.last.arg, .int .i64 t.last.err]
def enL (e : En) : List Value := [.int .i64 e.kind, .int .i64 e.thread, .int .i64 e.number, .int .i64 e.op.kind, .int .i64 e.op.obj, .int .i64 e.op.arg, .int .i64 e.event.kind, .int .i64 e.event.thread, .int .i64 e.event.obj, .int .i64 e.event.arg, .int .i64 e.event.err, .int .i64 e.value, .int .i64 e.err]
def thV (t : Th) : Value := .agg #[.int .i64 t.op.kind, .int .i64 t.op.obj, .int .i64 t.op.arg, .int .i64 t.calls, .bool t.opn, .int .i64 t.many, .int .i64 t.last.kind, .int .i64 t.last.thread, .int .i64 t.last.obj, .int .i64 t.last.arg, .int .i64 t.last.err]
def enV (e : En) : Value := .agg #[.int .i64 e.kind, .int .i64 e.thread, .int .i64 e.number, .int .i64 e.op.kind, .int .i64 e.op.obj, .int .i64 e.op.arg, .int .i64 e.event.kind, .int .i64 e.event.thread, .int .i64 e.event.obj, .int .i64 e.event.arg, .int .i64 e.event.err, .int .i64 e.value, .int .i64 e.err]

theorem meets_commitOf {h : PH} (k : Int) : Meets Try.prog 99 #[.int .i64 k] h fun v h' => v = .int .i64 (commitOf k) ∧ h' = h := by
  apply P_ghost_commitOf_of
  unfold P_ghost_commitOf commitOf
  refine ⟨fun hc => ⟨by have hc := beq_iff_eq.1 hc; subst hc; rfl, rfl⟩, fun hc => ?_⟩
  have h1 : k ≠ 1 := by simpa using hc
  clear hc
  refine ⟨fun hc => ⟨by have hc := beq_iff_eq.1 hc; subst hc; rfl, rfl⟩, fun hc => ?_⟩
  have h2 : k ≠ 2 := by simpa using hc
  clear hc
  refine ⟨fun hc => ⟨by have hc := beq_iff_eq.1 hc; subst hc; rfl, rfl⟩, fun hc => ?_⟩
  have h3 : k ≠ 3 := by simpa using hc
  clear hc
  refine ⟨fun hc => ⟨by have hc := beq_iff_eq.1 hc; subst hc; rfl, rfl⟩, fun hc => ?_⟩
  have h4 : k ≠ 4 := by simpa using hc
  clear hc
  refine ⟨fun hc => ⟨by have hc := beq_iff_eq.1 hc; subst hc; rfl, rfl⟩, fun hc => ?_⟩
  have h5 : k ≠ 5 := by simpa using hc
  clear hc
  refine ⟨fun hc => ⟨by have hc := beq_iff_eq.1 hc; subst hc; rfl, rfl⟩, fun hc => ?_⟩
  have h6 : k ≠ 6 := by simpa using hc
  clear hc
  refine ⟨fun hc => ⟨by have hc := beq_iff_eq.1 hc; subst hc; rfl, rfl⟩, fun hc => ?_⟩
  have h7 : k ≠ 7 := by simpa using hc
  clear hc
  refine ⟨fun hc => ⟨by have hc := beq_iff_eq.1 hc; subst hc; rfl, rfl⟩, fun hc => ?_⟩
  have h8 : k ≠ 8 := by simpa using hc
  clear hc
  refine ⟨fun hc => ⟨by have hc := beq_iff_eq.1 hc; subst hc; rfl, rfl⟩, fun hc => ?_⟩
  have h9 : k ≠ 9 := by simpa using hc
  clear hc
  exact ⟨by simp only [h1, h2, h3, h4, h5, h6, h7, h8, h9, if_false], rfl⟩

theorem meets_of {h : PH} (t : Th) (e : Ev) : Meets Try.prog 100 #[thV t, evV e] h fun v h' => v = .bool (t.of e) ∧ h' = h := by
  apply Meets.same
  apply P_ghost_thread_of_of
  unfold P_ghost_thread_of
  intro b hb b3 hb3
  obtain ⟨n3, hb3⟩ := upd_none hb3
  have l : h.le _ := upd_le_upd hb3 (O := .cells #[.int .i64 e.kind, .int .i64 e.thread, .int .i64 e.obj, .int .i64 e.arg, .int .i64 e.err] 33 (0, 0)) (PH.le_upd (O := .cells #[.int .i64 t.op.kind, .int .i64 t.op.obj, .int .i64 t.op.arg, .int .i64 t.calls, .bool t.opn, .int .i64 t.many, .int .i64 t.last.kind, .int .i64 t.last.thread, .int .i64 t.last.obj, .int .i64 t.last.arg, .int .i64 t.last.err] 147 (0, 0)) hb)
  simp only [xNn_some, add_mk, cell_mk, upd_at, del_at, if_true, if_false, Option.bind_some, List.getElem?_toArray, List.getElem?_cons_succ, List.getElem?_cons_zero, oI_some, oS_some, oM_some, oB_some, oP_some, oT_some, xIdx_some, Nat.zero_add, Nat.add_zero, Nat.mul_one, n3]
  refine ⟨fun hc => ?_, fun hc => ?_⟩
  · have hc := beq_iff_eq.1 hc
    exact xSc_and (e.arg == t.op.arg) (fun _ J hJ => hJ) ⟨by simp only [Th.of, hc, if_true], l⟩
  · have hc : t.op.kind ≠ 9 := by simpa using hc
    try simp only [xNn_some, add_mk, cell_mk, upd_at, del_at, if_true, if_false, Option.bind_some, List.getElem?_toArray, List.getElem?_cons_succ, List.getElem?_cons_zero, oI_some, oS_some, oM_some, oB_some, oP_some, oT_some, xIdx_some, Nat.zero_add, Nat.add_zero, Nat.mul_one, n3]
    exact ⟨by simp only [Th.of, hc, if_false], l⟩

theorem meets_waits {h : PH} (t : Th) (e : Ev) : Meets Try.prog 101 #[thV t, evV e] h fun v h' => v = .bool (t.waits e) ∧ h' = h := by
  apply Meets.same
  apply P_ghost_thread_waits_of
  unfold P_ghost_thread_waits
  intro b hb b3 hb3
  obtain ⟨n3, hb3⟩ := upd_none hb3
  have l : h.le _ := upd_le_upd hb3 (O := .cells #[.int .i64 e.kind, .int .i64 e.thread, .int .i64 e.obj, .int .i64 e.arg, .int .i64 e.err] 33 (0, 0)) (PH.le_upd (O := .cells #[.int .i64 t.op.kind, .int .i64 t.op.obj, .int .i64 t.op.arg, .int .i64 t.calls, .bool t.opn, .int .i64 t.many, .int .i64 t.last.kind, .int .i64 t.last.thread, .int .i64 t.last.obj, .int .i64 t.last.arg, .int .i64 t.last.err] 147 (0, 0)) hb)
  simp only [xNn_some, add_mk, cell_mk, upd_at, del_at, if_true, if_false, Option.bind_some, List.getElem?_toArray, List.getElem?_cons_succ, List.getElem?_cons_zero, oI_some, oS_some, oM_some, oB_some, oP_some, oT_some, xIdx_some, Nat.zero_add, Nat.add_zero, Nat.mul_one, n3, xBlk]
  refine ⟨fun hc => ?_, fun hc => ?_⟩
  · have hc := beq_iff_eq.1 hc
    exact ⟨by simp only [Th.waits, hc, if_true], l⟩
  have h0 : t.many ≠ 0 := by simpa using hc
  refine xSc_and (t.last.err == 0) (fun _ J hJ => hJ) ⟨fun hc => ?_, fun hc => ?_⟩
  · try simp only [xNn_some, add_mk, cell_mk, upd_at, del_at, if_true, if_false, Option.bind_some, List.getElem?_toArray, List.getElem?_cons_succ, List.getElem?_cons_zero, oI_some, oS_some, oM_some, oB_some, oP_some, oT_some, xIdx_some, Nat.zero_add, Nat.add_zero, Nat.mul_one, n3]
    exact xSc_or (e.kind == 6) (fun _ J hJ => hJ) ⟨by simp only [Th.waits, h0, if_false, hc, if_true], l⟩
  · try simp only [xNn_some, add_mk, cell_mk, upd_at, del_at, if_true, if_false, Option.bind_some, List.getElem?_toArray, List.getElem?_cons_succ, List.getElem?_cons_zero, oI_some, oS_some, oM_some, oB_some, oP_some, oT_some, xIdx_some, Nat.zero_add, Nat.add_zero, Nat.mul_one, n3]
    exact xSc_and (e.kind == 6) (fun _ J hJ => hJ) ⟨by simp only [Th.waits, h0, if_false, hc, Bool.false_eq_true], l⟩

theorem meets_tells {h : PH} (t : Th) (e : Ev) : Meets Try.prog 102 #[thV t, evV e] h fun v h' => v = .bool (t.tells e) ∧ h' = h := by
  apply Meets.same
  apply P_ghost_thread_tells_of
  unfold P_ghost_thread_tells
  intro b hb b3 hb3
  obtain ⟨n3, hb3⟩ := upd_none hb3
  have l : h.le _ := upd_le_upd hb3 (O := .cells #[.int .i64 e.kind, .int .i64 e.thread, .int .i64 e.obj, .int .i64 e.arg, .int .i64 e.err] 33 (0, 0)) (PH.le_upd (O := .cells #[.int .i64 t.op.kind, .int .i64 t.op.obj, .int .i64 t.op.arg, .int .i64 t.calls, .bool t.opn, .int .i64 t.many, .int .i64 t.last.kind, .int .i64 t.last.thread, .int .i64 t.last.obj, .int .i64 t.last.arg, .int .i64 t.last.err] 147 (0, 0)) hb)
  simp only [xNn_some, add_mk, cell_mk, upd_at, del_at, if_true, if_false, Option.bind_some, List.getElem?_toArray, List.getElem?_cons_succ, List.getElem?_cons_zero, oI_some, oS_some, oM_some, oB_some, oP_some, oT_some, xIdx_some, Nat.zero_add, Nat.add_zero, Nat.mul_one, n3, xBlk]
  refine xSc_and (t.last.kind != 7) (fun _ J hJ => hJ) ⟨fun hc => ?_, fun hc => ?_⟩
  · exact ⟨by simp only [Th.tells, hc, if_true], l⟩
  have h0 := hc
  try simp only [xNn_some, add_mk, cell_mk, upd_at, del_at, if_true, if_false, Option.bind_some, List.getElem?_toArray, List.getElem?_cons_succ, List.getElem?_cons_zero, oI_some, oS_some, oM_some, oB_some, oP_some, oT_some, xIdx_some, Nat.zero_add, Nat.add_zero, Nat.mul_one, n3]
  refine ⟨fun hc => ?_, fun hc => ?_⟩
  · have hc := beq_iff_eq.1 hc
    exact xSc_or (!decide (t.many > 0)) (fun _ J hJ => hJ) ⟨by simp only [Th.tells, h0, hc, if_false, if_true, Bool.false_eq_true], l⟩
  have h1 : e.kind ≠ 7 := by simpa using hc
  refine xDraw_self ?_
  try simp only [xNn_some, add_mk, cell_mk, upd_at, del_at, if_true, if_false, Option.bind_some, List.getElem?_toArray, List.getElem?_cons_succ, List.getElem?_cons_zero, oI_some, oS_some, oM_some, oB_some, oP_some, oT_some, xIdx_some, Nat.zero_add, Nat.add_zero, Nat.mul_one, n3]
  refine (meets_commitOf t.op.kind).look ?_
  try simp only [xNn_some, add_mk, cell_mk, upd_at, del_at, if_true, if_false, Option.bind_some, List.getElem?_toArray, List.getElem?_cons_succ, List.getElem?_cons_zero, oI_some, oS_some, oM_some, oB_some, oP_some, oT_some, xIdx_some, Nat.zero_add, Nat.add_zero, Nat.mul_one, n3]
  refine ⟨PH.le_refl _, ⟨fun hc => ?_, fun hc => ?_⟩⟩
  · exact ⟨by simp only [Th.tells, h0, h1, hc, if_false, if_true, Bool.false_eq_true], l⟩
  have h2 := hc
  refine ⟨fun hc => ?_, fun hc => ?_⟩
  · have hc := beq_iff_eq.1 hc
    refine ⟨?_, l⟩
    unfold Th.tells
    rw [if_neg (by simp [h0]), if_neg h1, if_neg (by simp [h2]), if_pos hc]
  have h3 : t.op.kind ≠ 6 := by simpa using hc
  refine ⟨fun hc => ?_, fun hc => ?_⟩
  · have hc := of_decide_eq_true hc
    try simp only [xNn_some, add_mk, cell_mk, upd_at, del_at, if_true, if_false, Option.bind_some, List.getElem?_toArray, List.getElem?_cons_succ, List.getElem?_cons_zero, oI_some, oS_some, oM_some, oB_some, oP_some, oT_some, xIdx_some, Nat.zero_add, Nat.add_zero, Nat.mul_one, n3]
    refine ⟨?_, l⟩
    unfold Th.tells
    rw [if_neg (by simp [h0]), if_neg h1, if_neg (by simp [h2]), if_neg h3, if_pos hc]
  · have hc := of_decide_eq_false hc
    try simp only [xNn_some, add_mk, cell_mk, upd_at, del_at, if_true, if_false, Option.bind_some, List.getElem?_toArray, List.getElem?_cons_succ, List.getElem?_cons_zero, oI_some, oS_some, oM_some, oB_some, oP_some, oT_some, xIdx_some, Nat.zero_add, Nat.add_zero, Nat.mul_one, n3]
    refine ⟨?_, l⟩
    unfold Th.tells
    rw [if_neg (by simp [h0]), if_neg h1, if_neg (by simp [h2]), if_neg h3, if_neg hc]

theorem meets_takes {h : PH} (t : Th) (e : Ev) : Meets Try.prog 72 #[thV t, evV e] h fun v h' => v = .bool (t.takes e) ∧ h' = h := by
  apply Meets.same
  apply P_ghost_thread_takes_of
  unfold P_ghost_thread_takes
  intro b hb b3 hb3
  obtain ⟨n3, hb3'⟩ := upd_none hb3
  have l : h.le _ := upd_le_upd hb3' (O := .cells #[.int .i64 e.kind, .int .i64 e.thread, .int .i64 e.obj, .int .i64 e.arg, .int .i64 e.err] 33 (0, 0)) (PH.le_upd (O := .cells #[.int .i64 t.op.kind, .int .i64 t.op.obj, .int .i64 t.op.arg, .int .i64 t.calls, .bool t.opn, .int .i64 t.many, .int .i64 t.last.kind, .int .i64 t.last.thread, .int .i64 t.last.obj, .int .i64 t.last.arg, .int .i64 t.last.err] 147 (0, 0)) hb)
  have eb : ((h.upd b (.cells #[.int .i64 t.op.kind, .int .i64 t.op.obj, .int .i64 t.op.arg, .int .i64 t.calls, .bool t.opn, .int .i64 t.many, .int .i64 t.last.kind, .int .i64 t.last.thread, .int .i64 t.last.obj, .int .i64 t.last.arg, .int .i64 t.last.err] 147 (0, 0))).upd b3 (.cells #[.int .i64 e.kind, .int .i64 e.thread, .int .i64 e.obj, .int .i64 e.arg, .int .i64 e.err] 33 (0, 0))) b = some (.cells #[.int .i64 t.op.kind, .int .i64 t.op.obj, .int .i64 t.op.arg, .int .i64 t.calls, .bool t.opn, .int .i64 t.many, .int .i64 t.last.kind, .int .i64 t.last.thread, .int .i64 t.last.obj, .int .i64 t.last.arg, .int .i64 t.last.err] 147 (0, 0)) := by simp only [upd_at, n3, if_false, if_true]
  have e3 : ((h.upd b (.cells #[.int .i64 t.op.kind, .int .i64 t.op.obj, .int .i64 t.op.arg, .int .i64 t.calls, .bool t.opn, .int .i64 t.many, .int .i64 t.last.kind, .int .i64 t.last.thread, .int .i64 t.last.obj, .int .i64 t.last.arg, .int .i64 t.last.err] 147 (0, 0))).upd b3 (.cells #[.int .i64 e.kind, .int .i64 e.thread, .int .i64 e.obj, .int .i64 e.arg, .int .i64 e.err] 33 (0, 0))) b3 = some (.cells #[.int .i64 e.kind, .int .i64 e.thread, .int .i64 e.obj, .int .i64 e.arg, .int .i64 e.err] 33 (0, 0)) := PH.upd_same _ _ _
  generalize (h.upd b (.cells #[.int .i64 t.op.kind, .int .i64 t.op.obj, .int .i64 t.op.arg, .int .i64 t.calls, .bool t.opn, .int .i64 t.many, .int .i64 t.last.kind, .int .i64 t.last.thread, .int .i64 t.last.obj, .int .i64 t.last.arg, .int .i64 t.last.err] 147 (0, 0))).upd b3 (.cells #[.int .i64 e.kind, .int .i64 e.thread, .int .i64 e.obj, .int .i64 e.arg, .int .i64 e.err] 33 (0, 0)) = h1 at l eb e3 ⊢
  simp only [xNn_some, add_mk, cell_mk, upd_at, del_at, if_true, if_false, Option.bind_some, List.getElem?_toArray, List.getElem?_cons_succ, List.getElem?_cons_zero, oI_some, oS_some, oM_some, oB_some, oP_some, oT_some, xIdx_some, Nat.zero_add, Nat.add_zero, Nat.mul_one, eb, e3, xBlk]
  refine xSc_or (!t.of e) (fun _ J hJ => ?_) ⟨fun hc => ?_, fun hc => ?_⟩
  · try simp only [xNn_some, add_mk, cell_mk, upd_at, del_at, if_true, if_false, Option.bind_some, List.getElem?_toArray, List.getElem?_cons_succ, List.getElem?_cons_zero, oI_some, oS_some, oM_some, oB_some, oP_some, oT_some, xIdx_some, Nat.zero_add, Nat.add_zero, Nat.mul_one, eb, e3]
    refine (meets_of t e).look ?_
    try simp only [xNn_some, add_mk, cell_mk, upd_at, del_at, if_true, if_false, Option.bind_some, List.getElem?_toArray, List.getElem?_cons_succ, List.getElem?_cons_zero, oI_some, oS_some, oM_some, oB_some, oP_some, oT_some, xIdx_some, Nat.zero_add, Nat.add_zero, Nat.mul_one]
    exact hJ
  · exact ⟨by simp only [Th.takes, hc, if_true], l⟩
  have h0 := hc
  try simp only [xNn_some, add_mk, cell_mk, upd_at, del_at, if_true, if_false, Option.bind_some, List.getElem?_toArray, List.getElem?_cons_succ, List.getElem?_cons_zero, oI_some, oS_some, oM_some, oB_some, oP_some, oT_some, xIdx_some, Nat.zero_add, Nat.add_zero, Nat.mul_one, eb, e3]
  refine ⟨fun hc => ?_, fun hc => ?_⟩
  · have hc := beq_iff_eq.1 hc
    try simp only [xNn_some, add_mk, cell_mk, upd_at, del_at, if_true, if_false, Option.bind_some, List.getElem?_toArray, List.getElem?_cons_succ, List.getElem?_cons_zero, oI_some, oS_some, oM_some, oB_some, oP_some, oT_some, xIdx_some, Nat.zero_add, Nat.add_zero, Nat.mul_one, eb, e3]
    refine (meets_waits t e).look ?_
    try simp only [xNn_some, add_mk, cell_mk, upd_at, del_at, if_true, if_false, Option.bind_some, List.getElem?_toArray, List.getElem?_cons_succ, List.getElem?_cons_zero, oI_some, oS_some, oM_some, oB_some, oP_some, oT_some, xIdx_some, Nat.zero_add, Nat.add_zero, Nat.mul_one]
    exact ⟨by unfold Th.takes; rw [if_neg (by simp [h0]), if_pos hc], l⟩
  have h4 : t.op.kind ≠ 4 := by simpa using hc
  have two : ∀ K : Bool → PH → Prop, K (t.op.kind == 5 || t.op.kind == 6) h1 → xIte (t.op.kind == 5) (fun J => J (t.op.kind == 5) h1) (fun J => J (t.op.kind == 6) h1) K := by
    intro K hK
    refine ⟨fun hc => ?_, fun hc => ?_⟩
    · rw [hc] at hK ⊢; exact hK
    · rw [hc] at hK; exact hK
  refine two _ ⟨fun hc => ?_, fun hc => ?_⟩
  · simp only [Bool.or_eq_true, beq_iff_eq] at hc
    try simp only [xNn_some, add_mk, cell_mk, upd_at, del_at, if_true, if_false, Option.bind_some, List.getElem?_toArray, List.getElem?_cons_succ, List.getElem?_cons_zero, oI_some, oS_some, oM_some, oB_some, oP_some, oT_some, xIdx_some, Nat.zero_add, Nat.add_zero, Nat.mul_one, eb, e3]
    refine (meets_tells t e).look ?_
    try simp only [xNn_some, add_mk, cell_mk, upd_at, del_at, if_true, if_false, Option.bind_some, List.getElem?_toArray, List.getElem?_cons_succ, List.getElem?_cons_zero, oI_some, oS_some, oM_some, oB_some, oP_some, oT_some, xIdx_some, Nat.zero_add, Nat.add_zero, Nat.mul_one]
    exact ⟨by unfold Th.takes; rw [if_neg (by simp [h0]), if_neg h4, if_pos hc], l⟩
  have h56 : ¬(t.op.kind = 5 ∨ t.op.kind = 6) := by simpa using hc
  refine xDraw_self ?_
  try simp only [xNn_some, add_mk, cell_mk, upd_at, del_at, if_true, if_false, Option.bind_some, List.getElem?_toArray, List.getElem?_cons_succ, List.getElem?_cons_zero, oI_some, oS_some, oM_some, oB_some, oP_some, oT_some, xIdx_some, Nat.zero_add, Nat.add_zero, Nat.mul_one, eb, e3]
  refine xSc_and (e.kind == commitOf t.op.kind) (fun _ J hJ => ?_) ⟨by unfold Th.takes; rw [if_neg (by simp [h0]), if_neg h4, if_neg h56], l⟩
  refine (meets_commitOf _).look ?_
  try simp only [xNn_some, add_mk, cell_mk, upd_at, del_at, if_true, if_false, Option.bind_some, List.getElem?_toArray, List.getElem?_cons_succ, List.getElem?_cons_zero, oI_some, oS_some, oM_some, oB_some, oP_some, oT_some, xIdx_some, Nat.zero_add, Nat.add_zero, Nat.mul_one]
  exact ⟨PH.le_refl _, hJ⟩

def toldV (t : Th) : Value := .tuple #[.int .i64 t.told.1, .int .i64 t.told.2.1, .bool t.told.2.2]

theorem meets_told {h : PH} (t : Th) : Meets Try.prog 73 #[thV t] h fun v h' => v = toldV t ∧ h' = h := by
  apply Meets.same
  apply P_ghost_thread_told_of
  unfold P_ghost_thread_told
  intro b hb
  have l : h.le _ := PH.le_upd (O := .cells #[.int .i64 t.op.kind, .int .i64 t.op.obj, .int .i64 t.op.arg, .int .i64 t.calls, .bool t.opn, .int .i64 t.many, .int .i64 t.last.kind, .int .i64 t.last.thread, .int .i64 t.last.obj, .int .i64 t.last.arg, .int .i64 t.last.err] 147 (0, 0)) hb
  have eb := PH.upd_same h b (.cells #[.int .i64 t.op.kind, .int .i64 t.op.obj, .int .i64 t.op.arg, .int .i64 t.calls, .bool t.opn, .int .i64 t.many, .int .i64 t.last.kind, .int .i64 t.last.thread, .int .i64 t.last.obj, .int .i64 t.last.arg, .int .i64 t.last.err] 147 (0, 0))
  generalize h.upd b (.cells #[.int .i64 t.op.kind, .int .i64 t.op.obj, .int .i64 t.op.arg, .int .i64 t.calls, .bool t.opn, .int .i64 t.many, .int .i64 t.last.kind, .int .i64 t.last.thread, .int .i64 t.last.obj, .int .i64 t.last.arg, .int .i64 t.last.err] 147 (0, 0)) = h1 at l eb ⊢
  simp only [xNn_some, add_mk, cell_mk, upd_at, del_at, if_true, if_false, Option.bind_some, List.getElem?_toArray, List.getElem?_cons_succ, List.getElem?_cons_zero, oI_some, oS_some, oM_some, oB_some, oP_some, oT_some, xIdx_some, Nat.zero_add, Nat.add_zero, Nat.mul_one, eb, xBlk]
  refine xSc_or (t.many == 0) (fun _ J hJ => hJ) ⟨fun hc => ?_, fun hc => ?_⟩
  · exact ⟨by simp only [toldV, Th.told, hc, if_true], l⟩
  have h0 := hc
  refine xDraw_self ?_
  try simp only [xNn_some, add_mk, cell_mk, upd_at, del_at, if_true, if_false, Option.bind_some, List.getElem?_toArray, List.getElem?_cons_succ, List.getElem?_cons_zero, oI_some, oS_some, oM_some, oB_some, oP_some, oT_some, xIdx_some, Nat.zero_add, Nat.add_zero, Nat.mul_one, eb]
  refine (meets_commitOf _).look ?_
  try simp only [xNn_some, add_mk, cell_mk, upd_at, del_at, if_true, if_false, Option.bind_some, List.getElem?_toArray, List.getElem?_cons_succ, List.getElem?_cons_zero, oI_some, oS_some, oM_some, oB_some, oP_some, oT_some, xIdx_some, Nat.zero_add, Nat.add_zero, Nat.mul_one, eb]
  refine ⟨PH.le_refl _, ⟨fun hc => ?_, fun hc => ?_⟩⟩
  · have hc := beq_iff_eq.1 hc
    refine xDraw_self ?_
    try simp only [xNn_some, add_mk, cell_mk, upd_at, del_at, if_true, if_false, Option.bind_some, List.getElem?_toArray, List.getElem?_cons_succ, List.getElem?_cons_zero, oI_some, oS_some, oM_some, oB_some, oP_some, oT_some, xIdx_some, Nat.zero_add, Nat.add_zero, Nat.mul_one, eb]
    refine xSc_or (t.last.kind == 4 && t.last.err != 0) (fun _ J hJ => xSc_and (t.last.err != 0) (fun _ J hJ => hJ) hJ) ⟨?_, l⟩
    unfold toldV Th.told; rw [if_neg (by simp [h0]), if_pos hc]
  have h4 : t.op.kind ≠ 4 := by simpa using hc
  refine ⟨fun hc => ?_, fun hc => ?_⟩
  · have hc := beq_iff_eq.1 hc
    refine xDraw_self ?_
    try simp only [xNn_some, add_mk, cell_mk, upd_at, del_at, if_true, if_false, Option.bind_some, List.getElem?_toArray, List.getElem?_cons_succ, List.getElem?_cons_zero, oI_some, oS_some, oM_some, oB_some, oP_some, oT_some, xIdx_some, Nat.zero_add, Nat.add_zero, Nat.mul_one, eb]
    refine ⟨?_, l⟩
    unfold toldV Th.told; rw [if_neg (by simp [h0]), if_neg h4, if_pos hc]
  have h6 : t.op.kind ≠ 6 := by simpa using hc
  have three : ∀ K : Bool → PH → Prop, K (t.op.kind == 5 || (t.op.kind == 7 || t.op.kind == 8)) h1 → xIte (t.op.kind == 5) (fun J => J (t.op.kind == 5) h1) (fun J => xIte (t.op.kind == 7) (fun J => J (t.op.kind == 7) h1) (fun J => J (t.op.kind == 8) h1) (fun x h' => J x h')) K := by
    intro K hK
    refine ⟨fun hc => ?_, fun hc => ⟨fun hc' => ?_, fun hc' => ?_⟩⟩
    · rw [hc] at hK ⊢; exact hK
    · rw [hc, hc'] at hK; rw [hc']; exact hK
    · rw [hc, hc'] at hK; exact hK
  refine three _ ⟨fun hc => ?_, fun hc => ?_⟩
  · simp only [Bool.or_eq_true, beq_iff_eq] at hc
    refine xDraw_self ?_
    try simp only [xNn_some, add_mk, cell_mk, upd_at, del_at, if_true, if_false, Option.bind_some, List.getElem?_toArray, List.getElem?_cons_succ, List.getElem?_cons_zero, oI_some, oS_some, oM_some, oB_some, oP_some, oT_some, xIdx_some, Nat.zero_add, Nat.add_zero, Nat.mul_one, eb]
    refine ⟨?_, l⟩
    unfold toldV Th.told; rw [if_neg (by simp [h0]), if_neg h4, if_neg h6, if_pos hc]
  have h578 : ¬(t.op.kind = 5 ∨ t.op.kind = 7 ∨ t.op.kind = 8) := by simpa using hc
  refine xDraw_self ?_
  try simp only [xNn_some, add_mk, cell_mk, upd_at, del_at, if_true, if_false, Option.bind_some, List.getElem?_toArray, List.getElem?_cons_succ, List.getElem?_cons_zero, oI_some, oS_some, oM_some, oB_some, oP_some, oT_some, xIdx_some, Nat.zero_add, Nat.add_zero, Nat.mul_one, eb]
  refine ⟨?_, l⟩
  unfold toldV Th.told; rw [if_neg (by simp [h0]), if_neg h4, if_neg h6, if_neg h578]

def enI (e : En) : List Int := [e.kind, e.thread, e.number, e.op.kind, e.op.obj, e.op.arg, e.event.kind, e.event.thread, e.event.obj, e.event.arg, e.event.err, e.value, e.err]
theorem bare1 (e : En) (hc : e.kind = 1) : [e.kind, e.thread, e.number, e.op.kind, e.op.obj, e.op.arg, 0, 0, 0, 0, 0, 0, 0] = enI e ↔ e.bare = true := by
  simp [En.bare, hc, enI]; omega
theorem bare2 (e : En) (hc : e.kind = 2) : [e.kind, e.event.thread, 0, 0, 0, 0, e.event.kind, e.event.thread, e.event.obj, e.event.arg, e.event.err, 0, 0] = enI e ↔ e.bare = true := by
  simp [En.bare, hc, enI]; omega
theorem bare3 (e : En) (hc : e.kind = 3) : [e.kind, e.thread, e.number, 0, 0, 0, 0, 0, 0, 0, 0, e.value, e.err] = enI e ↔ e.bare = true := by
  simp [En.bare, hc, enI]; omega

theorem meets_isBare {h : PH} (e : En) : Meets Try.prog 70 #[enV e] h fun v h' => v = .bool e.bare ∧ h' = h := by
  apply Meets.same
  apply P_ghost_isBare_of
  unfold P_ghost_isBare
  intro b hb
  have l : h.le _ := PH.le_upd (O := .cells #[.int .i64 e.kind, .int .i64 e.thread, .int .i64 e.number, .int .i64 e.op.kind, .int .i64 e.op.obj, .int .i64 e.op.arg, .int .i64 e.event.kind, .int .i64 e.event.thread, .int .i64 e.event.obj, .int .i64 e.event.arg, .int .i64 e.event.err, .int .i64 e.value, .int .i64 e.err] 90 (0, 0)) hb
  have eb := PH.upd_same h b (.cells #[.int .i64 e.kind, .int .i64 e.thread, .int .i64 e.number, .int .i64 e.op.kind, .int .i64 e.op.obj, .int .i64 e.op.arg, .int .i64 e.event.kind, .int .i64 e.event.thread, .int .i64 e.event.obj, .int .i64 e.event.arg, .int .i64 e.event.err, .int .i64 e.value, .int .i64 e.err] 90 (0, 0))
  generalize h.upd b (.cells #[.int .i64 e.kind, .int .i64 e.thread, .int .i64 e.number, .int .i64 e.op.kind, .int .i64 e.op.obj, .int .i64 e.op.arg, .int .i64 e.event.kind, .int .i64 e.event.thread, .int .i64 e.event.obj, .int .i64 e.event.arg, .int .i64 e.event.err, .int .i64 e.value, .int .i64 e.err] 90 (0, 0)) = h1 at l eb ⊢
  simp only [xNn_some, add_mk, cell_mk, upd_at, del_at, if_true, if_false, Option.bind_some, List.getElem?_toArray, List.getElem?_cons_succ, List.getElem?_cons_zero, oI_some, oS_some, oM_some, oB_some, oP_some, oT_some, xIdx_some, Nat.zero_add, Nat.add_zero, Nat.mul_one, eb, xBlk]
  intro b3 hb3
  have n3 : b ≠ b3 := ne_of_known eb hb3
  refine xSt_mk (PH.upd_same _ _ _) rfl (by decide) (by simp [oneCell]) (by simp) ?_
  rw [PH.upd_upd]
  simp only [xNn_some, add_mk, cell_mk, upd_at, del_at, if_true, if_false, Option.bind_some, List.getElem?_toArray, List.getElem?_cons_succ, List.getElem?_cons_zero, oI_some, oS_some, oM_some, oB_some, oP_some, oT_some, xIdx_some, Nat.zero_add, Nat.add_zero, Nat.mul_one, n3, eb, setN, List.setIfInBounds_toArray, List.set_cons_zero, List.set_cons_succ]
  have fin : ∀ (xs : List Int) (h2 : PH) (Q : Value → PH → Prop), xs.length = 13 → (xs = enI e ↔ e.bare = true) → h.le h2 → (∀ r, (r = e.bare) → Q (.bool r) h2) → xEq Try.prog 90 (.agg (xs.map (Value.int .i64)).toArray) (.agg ((enI e).map (Value.int .i64)).toArray) (fun r => Q (.bool r) h2) := by
    intro xs h2 Q hx hi l hQ
    obtain ⟨r, law, hr⟩ := eqLaw_list (P := Try.prog) (t := 90) 13 30 (by kernel_rfl) xs (enI e) hx rfl
    refine ⟨r, law, hQ r ?_⟩
    rw [Bool.eq_iff_iff, hr, hi]
  refine ⟨fun hc => ?_, fun hc => ?_⟩
  · have hc := beq_iff_eq.1 hc
    refine xDraw_del b3 ?_
    try simp only [xNn_some, add_mk, cell_mk, upd_at, del_at, if_true, if_false, Option.bind_some, List.getElem?_toArray, List.getElem?_cons_succ, List.getElem?_cons_zero, oI_some, oS_some, oM_some, oB_some, oP_some, oT_some, xIdx_some, Nat.zero_add, Nat.add_zero, Nat.mul_one, n3, eb, setN, List.setIfInBounds_toArray, List.set_cons_zero, List.set_cons_succ]
    refine xSt_mk (PH.upd_same _ _ _) rfl (by decide) (by simp [oneCell]) (by simp) ?_
    refine ⟨PH.del_le_upd (by first | exact PH.del_le _ _ | exact PH.del_le_upd (PH.del_le _ _)), ?_⟩
    refine xSt_mk (PH.upd_same _ _ _) rfl (by decide) (by simp [oneCell]) (by simp) ?_
    simp only [PH.upd_upd]
    simp only [xNn_some, add_mk, cell_mk, upd_at, del_at, if_true, if_false, Option.bind_some, List.getElem?_toArray, List.getElem?_cons_succ, List.getElem?_cons_zero, oI_some, oS_some, oM_some, oB_some, oP_some, oT_some, xIdx_some, Nat.zero_add, Nat.add_zero, Nat.mul_one, n3, eb, setN, List.setIfInBounds_toArray, List.set_cons_zero, List.set_cons_succ]
    exact fin [e.kind, e.thread, e.number, e.op.kind, e.op.obj, e.op.arg, 0, 0, 0, 0, 0, 0, 0] _ (fun v h' => v = .bool e.bare ∧ h.le h') rfl (bare1 e hc) (PH.le_trans l (PH.le_upd hb3)) (fun r hr => ⟨by rw [hr], PH.le_trans l (PH.le_upd hb3)⟩)
  have h1 : e.kind ≠ 1 := by simpa using hc
  refine ⟨fun hc => ?_, fun hc => ?_⟩
  · have hc := beq_iff_eq.1 hc
    refine xDraw_del b3 ?_
    try simp only [xNn_some, add_mk, cell_mk, upd_at, del_at, if_true, if_false, Option.bind_some, List.getElem?_toArray, List.getElem?_cons_succ, List.getElem?_cons_zero, oI_some, oS_some, oM_some, oB_some, oP_some, oT_some, xIdx_some, Nat.zero_add, Nat.add_zero, Nat.mul_one, n3, eb, setN, List.setIfInBounds_toArray, List.set_cons_zero, List.set_cons_succ]
    refine xSt_mk (PH.upd_same _ _ _) rfl (by decide) (by simp [oneCell]) (by simp) ?_
    refine ⟨PH.del_le_upd (by first | exact PH.del_le _ _ | exact PH.del_le_upd (PH.del_le _ _)), ?_⟩
    refine xSt_mk (PH.upd_same _ _ _) rfl (by decide) (by simp [oneCell]) (by simp) ?_
    simp only [PH.upd_upd]
    simp only [xNn_some, add_mk, cell_mk, upd_at, del_at, if_true, if_false, Option.bind_some, List.getElem?_toArray, List.getElem?_cons_succ, List.getElem?_cons_zero, oI_some, oS_some, oM_some, oB_some, oP_some, oT_some, xIdx_some, Nat.zero_add, Nat.add_zero, Nat.mul_one, n3, eb, setN, List.setIfInBounds_toArray, List.set_cons_zero, List.set_cons_succ]
    exact fin [e.kind, e.event.thread, 0, 0, 0, 0, e.event.kind, e.event.thread, e.event.obj, e.event.arg, e.event.err, 0, 0] _ (fun v h' => v = .bool e.bare ∧ h.le h') rfl (bare2 e hc) (PH.le_trans l (PH.le_upd hb3)) (fun r hr => ⟨by rw [hr], PH.le_trans l (PH.le_upd hb3)⟩)
  have h2 : e.kind ≠ 2 := by simpa using hc
  refine ⟨fun hc => ?_, fun hc => ?_⟩
  · have hc := beq_iff_eq.1 hc
    refine xDraw_del b3 ?_
    try simp only [xNn_some, add_mk, cell_mk, upd_at, del_at, if_true, if_false, Option.bind_some, List.getElem?_toArray, List.getElem?_cons_succ, List.getElem?_cons_zero, oI_some, oS_some, oM_some, oB_some, oP_some, oT_some, xIdx_some, Nat.zero_add, Nat.add_zero, Nat.mul_one, n3, eb, setN, List.setIfInBounds_toArray, List.set_cons_zero, List.set_cons_succ]
    refine xSt_mk (PH.upd_same _ _ _) rfl (by decide) (by simp [oneCell]) (by simp) ?_
    refine ⟨PH.del_le_upd (by first | exact PH.del_le _ _ | exact PH.del_le_upd (PH.del_le _ _)), ?_⟩
    refine xSt_mk (PH.upd_same _ _ _) rfl (by decide) (by simp [oneCell]) (by simp) ?_
    refine ⟨PH.del_le_upd (by first | exact PH.del_le _ _ | exact PH.del_le_upd (PH.del_le _ _)), ?_⟩
    refine xSt_mk (PH.upd_same _ _ _) rfl (by decide) (by simp [oneCell]) (by simp) ?_
    simp only [PH.upd_upd]
    simp only [xNn_some, add_mk, cell_mk, upd_at, del_at, if_true, if_false, Option.bind_some, List.getElem?_toArray, List.getElem?_cons_succ, List.getElem?_cons_zero, oI_some, oS_some, oM_some, oB_some, oP_some, oT_some, xIdx_some, Nat.zero_add, Nat.add_zero, Nat.mul_one, n3, eb, setN, List.setIfInBounds_toArray, List.set_cons_zero, List.set_cons_succ]
    exact fin [e.kind, e.thread, e.number, 0, 0, 0, 0, 0, 0, 0, 0, e.value, e.err] _ (fun v h' => v = .bool e.bare ∧ h.le h') rfl (bare3 e hc) (PH.le_trans l (PH.le_upd hb3)) (fun r hr => ⟨by rw [hr], PH.le_trans l (PH.le_upd hb3)⟩)
  have h3 : e.kind ≠ 3 := by simpa using hc
  exact ⟨by unfold En.bare; rw [if_neg h1, if_neg h2, if_neg h3], PH.le_trans l (PH.le_upd hb3)⟩

theorem meets_may {h : PH} {l tb : Nat} {objects : Int} {n c : Nat} {m s : Value} (hl : h l = some (.cells #[.int .i64 objects, m, .slice (some ⟨tb, 0, none⟩) n c, s] 109 (0, 0))) (o : Oq) :
    Meets Try.prog 71 #[.pointer (some ⟨l, 0, none⟩), .agg #[.int .i64 o.kind, .int .i64 o.obj, .int .i64 o.arg]] h fun v h' => v = .bool (mayOp objects n o) ∧ h' = h := by
  apply Meets.same
  apply P_ghost_Log_may_of
  unfold P_ghost_Log_may
  intro b hb
  have n3 : l ≠ b := ne_of_known hl hb
  have le : h.le _ := PH.le_upd (O := .cells #[.int .i64 o.kind, .int .i64 o.obj, .int .i64 o.arg] 86 (0, 0)) hb
  refine xDraw_self ?_
  try simp only [xNn_some, add_mk, cell_mk, upd_at, del_at, if_true, if_false, Option.bind_some, List.getElem?_toArray, List.getElem?_cons_succ, List.getElem?_cons_zero, oI_some, oS_some, oM_some, oB_some, oP_some, oT_some, xIdx_some, Nat.zero_add, Nat.add_zero, Nat.mul_one, n3, hl]
  refine (meets_commitOf _).look ?_
  try simp only [xNn_some, add_mk, cell_mk, upd_at, del_at, if_true, if_false, Option.bind_some, List.getElem?_toArray, List.getElem?_cons_succ, List.getElem?_cons_zero, oI_some, oS_some, oM_some, oB_some, oP_some, oT_some, xIdx_some, Nat.zero_add, Nat.add_zero, Nat.mul_one, n3, hl]
  refine ⟨PH.le_refl _, ?_⟩
  refine xSc_or (decide (o.obj < 0)) (fun _ J hJ => hJ) ?_
  refine xSc_or (decide (o.obj ≥ objects)) (fun _ J hJ => hJ) ?_
  refine xSc_or (decide (o.arg < 0)) (fun _ J hJ => hJ) ⟨fun hc => ?_, fun hc => ?_⟩
  · exact ⟨by simp only [mayOp, hc, if_true], le⟩
  have h0 := hc
  try simp only [xNn_some, add_mk, cell_mk, upd_at, del_at, if_true, if_false, Option.bind_some, List.getElem?_toArray, List.getElem?_cons_succ, List.getElem?_cons_zero, oI_some, oS_some, oM_some, oB_some, oP_some, oT_some, xIdx_some, Nat.zero_add, Nat.add_zero, Nat.mul_one, n3, hl, xBlk]
  refine ⟨fun hc => ?_, fun hc => ?_⟩
  · have hc := beq_iff_eq.1 hc
    refine xDraw_self ?_
    try simp only [xNn_some, add_mk, cell_mk, upd_at, del_at, if_true, if_false, Option.bind_some, List.getElem?_toArray, List.getElem?_cons_succ, List.getElem?_cons_zero, oI_some, oS_some, oM_some, oB_some, oP_some, oT_some, xIdx_some, Nat.zero_add, Nat.add_zero, Nat.mul_one, n3, hl]
    exact ⟨by unfold mayOp; rw [if_neg (by simp [h0]), if_pos hc], le⟩
  have h9 : o.kind ≠ 9 := by simpa using hc
  refine ⟨fun hc => ?_, fun hc => ?_⟩
  · have hc := beq_iff_eq.1 hc
    exact ⟨by unfold mayOp; rw [if_neg (by simp [h0]), if_neg h9, if_pos hc], le⟩
  have h4 : o.kind ≠ 4 := by simpa using hc
  try simp only [xNn_some, add_mk, cell_mk, upd_at, del_at, if_true, if_false, Option.bind_some, List.getElem?_toArray, List.getElem?_cons_succ, List.getElem?_cons_zero, oI_some, oS_some, oM_some, oB_some, oP_some, oT_some, xIdx_some, Nat.zero_add, Nat.add_zero, Nat.mul_one, n3, hl]
  exact ⟨by unfold mayOp; rw [if_neg (by simp [h0]), if_neg h9, if_neg h4], le⟩

end Go.Gh
