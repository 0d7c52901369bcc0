/-
  An entry is added.
-/
import Derived.Test.YtnnedfhpicdacaaG3
set_option linter.unusedSimpArgs false
set_option linter.unusedVariables false
namespace Go.Gh
open Go Go.Sx Go.Md Go.Proofs Go.Proofs.Ytnnedfhpicdacaa

/-- What is left of an entry. -/
def Added (h : PH) (G : GL) (g : Gs) (e : En) (v : Value) (h' : PH) : Prop :=
  v = .int .i64 (g.code e) ∧ ∃ G', G'.l = G.l ∧ GRep h' G' (g.next e) ∧ Ext G.all h h' ∧ ∀ b ∈ G'.all, b ∈ G.all ∨ h b = none

theorem Added.no {h h' : PH} {G : GL} {g : Gs} {e : En} (t : g.turn e = none) (r : GRep h' G g) (x : Ext G.all h h') : Added h G g e (.int .i64 15) h' := by
  have ha : g.add e = none := by simp only [Gs.add, t]; rfl
  refine ⟨by simp only [Gs.code, ha]; rfl, G, rfl, ?_, x, fun b hb => .inl hb⟩
  rw [show g.next e = g from by simp only [Gs.next, ha]; rfl]
  exact r

theorem th_get {g : Gs} {t : Int} (h : t.toNat < g.threads.length) : g.threads[t.toNat]? = some (g.th t) := by
  simp [Gs.th, List.getD_eq_getElem?_getD, h]

/-- A store of a part of a thread. -/
theorem st_th {h : PH} {G : GL} {g : Gs} (r : GRep h G g) {t : Int} (ht : t.toNat < g.threads.length) (k : Nat) (vs : List Value) (x : Th) {n : Nat} {K : PH → Prop} (hn : vs.length = n) (hz : n ≠ 0) (h1 : ∀ v ∈ vs, oneCell v = true)
    (hm : setW (thL (g.th t)) k vs = thL x) (hk : k + vs.length ≤ 11) (kk : ∀ O, GRep (h.upd G.tb O) G (g.setTh t x) → K (h.upd G.tb O)) : xSt n h ⟨G.tb, t.toNat * 11 + k, none⟩ vs K := by
  obtain ⟨j, ct⟩ := r.ct
  refine xSt_mk ct hn hz h1 ?_ (kk _ ?_)
  · rw [rec_size thLen]; omega
  · rw [rec_set thLen (g.th t) x (th_get ht) k vs hm hk]
    exact r.setTh (by simp) j
theorem st_th0 {h : PH} {G : GL} {g : Gs} (r : GRep h G g) {t : Int} (ht : t.toNat < g.threads.length) (vs : List Value) (x : Th) {n : Nat} {K : PH → Prop} (hn : vs.length = n) (hz : n ≠ 0) (h1 : ∀ v ∈ vs, oneCell v = true)
    (hm : setW (thL (g.th t)) 0 vs = thL x) (hk : vs.length ≤ 11) (kk : ∀ O, GRep (h.upd G.tb O) G (g.setTh t x) → K (h.upd G.tb O)) : xSt n h ⟨G.tb, t.toNat * 11, none⟩ vs K := st_th r ht 0 vs x hn hz h1 hm (by omega) kk

theorem th_setTh {g : Gs} {t : Int} (h : t.toNat < g.threads.length) (x : Th) : (g.setTh t x).th t = x := by
  simp [Gs.th, Gs.setTh, List.getD_eq_getElem?_getD, h]
theorem setTh_setTh (g : Gs) (t : Int) (x y : Th) : (g.setTh t x).setTh t y = g.setTh t y := by simp [Gs.setTh]

/-- A thread's cells. -/
structure ThAt (A : Array Value) (n : Nat) (t : Th) : Prop where
  c0 : A[n * 11]? = some (.int .i64 t.op.kind)
  c1 : A[n * 11 + 1]? = some (.int .i64 t.op.obj)
  c2 : A[n * 11 + 2]? = some (.int .i64 t.op.arg)
  c3 : A[n * 11 + 3]? = some (.int .i64 t.calls)
  c4 : A[n * 11 + 4]? = some (.bool t.opn)
  c5 : A[n * 11 + 5]? = some (.int .i64 t.many)
  c6 : A[n * 11 + 6]? = some (.int .i64 t.last.kind)
  c7 : A[n * 11 + 7]? = some (.int .i64 t.last.thread)
  c8 : A[n * 11 + 8]? = some (.int .i64 t.last.obj)
  c9 : A[n * 11 + 9]? = some (.int .i64 t.last.arg)
  c10 : A[n * 11 + 10]? = some (.int .i64 t.last.err)
theorem thAt {g : Gs} {t : Int} (h : t.toNat < g.threads.length) (j : List Value) : ThAt (recArr thL g.threads j) t.toNat (g.th t) := by
  have q := fun k hk => rec_get thLen (junk := j) (g.th t) (th_get h) k hk
  exact ⟨q 0 (by omega), q 1 (by omega), q 2 (by omega), q 3 (by omega), q 4 (by omega), q 5 (by omega), q 6 (by omega), q 7 (by omega), q 8 (by omega), q 9 (by omega), q 10 (by omega)⟩

set_option maxHeartbeats 1000000 in
theorem meets_Add {h : PH} {G : GL} {g : Gs} (r : GRep h G g) (e : En) (hb : g.entries.length ≤ 100000) (few : g.model.waits.length ≤ 64) :
    Meets Try.prog 40 #[gp G, enV e] h (Added h G g e) := by
  apply P_ghost_Log_Add_of
  unfold P_ghost_Log_Add
  intro b nb
  have r1 := r.le (PH.le_upd (O := .cells #[.int .i64 e.kind, .int .i64 e.thread, .int .i64 e.number, .int .i64 e.op.kind, .int .i64 e.op.obj, .int .i64 e.op.arg, .int .i64 e.event.kind, .int .i64 e.event.thread, .int .i64 e.event.obj, .int .i64 e.event.arg, .int .i64 e.event.err, .int .i64 e.value, .int .i64 e.err] 90 (0, 0)) nb)
  have x1 : Ext G.all h _ := (Ext.refl G.all h).upd_new (O := .cells #[.int .i64 e.kind, .int .i64 e.thread, .int .i64 e.number, .int .i64 e.op.kind, .int .i64 e.op.obj, .int .i64 e.op.arg, .int .i64 e.event.kind, .int .i64 e.event.thread, .int .i64 e.event.obj, .int .i64 e.event.arg, .int .i64 e.event.err, .int .i64 e.value, .int .i64 e.err] 90 (0, 0)) nb
  have eb := PH.upd_same h b (.cells #[.int .i64 e.kind, .int .i64 e.thread, .int .i64 e.number, .int .i64 e.op.kind, .int .i64 e.op.obj, .int .i64 e.op.arg, .int .i64 e.event.kind, .int .i64 e.event.thread, .int .i64 e.event.obj, .int .i64 e.event.arg, .int .i64 e.event.err, .int .i64 e.value, .int .i64 e.err] 90 (0, 0))
  have off := r.off nb
  generalize h.upd b (.cells #[.int .i64 e.kind, .int .i64 e.thread, .int .i64 e.number, .int .i64 e.op.kind, .int .i64 e.op.obj, .int .i64 e.op.arg, .int .i64 e.event.kind, .int .i64 e.event.thread, .int .i64 e.event.obj, .int .i64 e.event.arg, .int .i64 e.event.err, .int .i64 e.value, .int .i64 e.err] 90 (0, 0)) = h1 at r1 x1 eb ⊢
  refine xBlk_split (fun h' => h' = h1 ∧ g.fits e = true) ?_ fun K hK => ?_
  rotate_left
  · -- it fits, or is refused
    obtain ⟨c, base, cap, cl, ce⟩ := r1.cl
    refine (meets_gok r1).look ?_
    simp only [oB_some]
    refine ⟨fun hx => (by cases hx), fun _ => ?_⟩
    refine xDraw_self ?_
    simp only [xNn_some, add_mk, cell_mk, upd_at, del_at, if_true, if_false, Option.bind_some, List.getElem?_toArray, List.getElem?_cons_succ, List.getElem?_cons_zero, oI_some, oS_some, oM_some, oB_some, oP_some, oT_some, xIdx_some, Nat.zero_add, Nat.add_zero, Nat.mul_one, eb, gp, cl]
    refine (meets_isBare e).look ?_
    simp only [xNn_some, add_mk, cell_mk, upd_at, del_at, if_true, if_false, Option.bind_some, List.getElem?_toArray, List.getElem?_cons_succ, List.getElem?_cons_zero, oI_some, oS_some, oM_some, oB_some, oP_some, oT_some, xIdx_some, Nat.zero_add, Nat.add_zero, Nat.mul_one, eb, cl]
    refine ⟨PH.le_refl _, ?_⟩
    refine xSc_or (decide (e.thread < 0)) (fun _ J hJ => hJ) ?_
    refine xSc_or (decide (e.thread ≥ (g.threads.length : Int))) (fun _ J hJ => hJ) ⟨fun hx => ?_, fun hx => ?_⟩
    · refine Added.no ?_ r1 x1
      have : g.fits e = false := by
        unfold Gs.fits
        revert hx
        generalize e.bare = x
        generalize decide (e.thread < 0) = y
        generalize decide (e.thread ≥ (g.threads.length : Int)) = z
        cases x <;> cases y <;> cases z <;> simp
      simp only [Gs.turn, this, if_true]
    · refine hK _ ⟨rfl, ?_⟩
      unfold Gs.fits
      revert hx
      generalize e.bare = x
      generalize decide (e.thread < 0) = y
      generalize decide (e.thread ≥ (g.threads.length : Int)) = z
      cases x <;> cases y <;> cases z <;> simp
  rintro h' ⟨rfl, hfit⟩
  have ht : 0 ≤ e.thread ∧ e.thread < (g.threads.length : Int) ∧ e.thread.toNat < g.threads.length := by
    have := hfit
    simp only [Gs.fits, Bool.and_eq_true, Bool.not_eq_true', decide_eq_false_iff_not] at this
    omega
  obtain ⟨ht0, ht1, ht2⟩ := ht
  obtain ⟨c, base, cap, cl, ce⟩ := r1.cl
  obtain ⟨j, ct⟩ := r1.ct
  have ta := thAt ht2 j
  refine xDraw_self ?_
  refine nn ?_
  refine rSa cl rfl ?_
  refine rIa eb rfl ?_
  refine xIdx_at ht0 ht1 ?_
  refine rIa eb rfl ?_
  refine xBlk_split (fun h2 => ∃ g', g.turn e = some g' ∧ g'.entries = g.entries ∧ GRep h2 G g' ∧ Ext G.all h h2 ∧ h2 b = some (.cells #[.int .i64 e.kind, .int .i64 e.thread, .int .i64 e.number, .int .i64 e.op.kind, .int .i64 e.op.obj, .int .i64 e.op.arg, .int .i64 e.event.kind, .int .i64 e.event.thread, .int .i64 e.event.obj, .int .i64 e.event.arg, .int .i64 e.event.err, .int .i64 e.value, .int .i64 e.err] 90 (0, 0))) ?_ fun K hK => ?_
  rotate_left
  · -- what it turns
    have q1 : G.tb ≠ b := off _ (tb_in G)
    refine ⟨fun hc => ?_, fun hc => ?_⟩
    · -- Call
      have hc := beq_iff_eq.1 hc
      refine xDraw_self ?_
      simp only [xNn_some, add_mk, cell_mk, upd_at, del_at, if_true, if_false, Option.bind_some, List.getElem?_toArray, List.getElem?_cons_succ, List.getElem?_cons_zero, oI_some, oS_some, oM_some, oB_some, oP_some, oT_some, xIdx_some, Nat.zero_add, Nat.add_zero, Nat.mul_one, eb, ct, ta.c4, ta.c3]
      refine xSc_or (e.number != (g.th e.thread).calls) (fun _ J hJ => hJ) ?_
      refine xSc_or (!mayOp g.objects g.threads.length e.op) (fun _ J hJ => ?_) ⟨fun hx => ?_, fun hx => ?_⟩
      · try simp only [xNn_some, add_mk, cell_mk, upd_at, del_at, if_true, if_false, Option.bind_some, List.getElem?_toArray, List.getElem?_cons_succ, List.getElem?_cons_zero, oI_some, oS_some, oM_some, oB_some, oP_some, oT_some, xIdx_some, Nat.zero_add, Nat.add_zero, Nat.mul_one, eb, ct, ta.c4, ta.c3]
        refine (meets_may cl e.op).look ?_
        simp only [xNn_some, add_mk, cell_mk, upd_at, del_at, if_true, if_false, Option.bind_some, List.getElem?_toArray, List.getElem?_cons_succ, List.getElem?_cons_zero, oI_some, oS_some, oM_some, oB_some, oP_some, oT_some, xIdx_some, Nat.zero_add, Nat.add_zero, Nat.mul_one]
        exact ⟨PH.le_refl _, hJ⟩
      · refine Added.no ?_ r1 x1
        unfold Gs.turn
        rw [if_neg (by simp [hfit]), if_pos hc, if_pos hx]
      · refine xDraw_self ?_
        try simp only [xNn_some, add_mk, cell_mk, upd_at, del_at, if_true, if_false, Option.bind_some, List.getElem?_toArray, List.getElem?_cons_succ, List.getElem?_cons_zero, oI_some, oS_some, oM_some, oB_some, oP_some, oT_some, xIdx_some, Nat.zero_add, Nat.add_zero, Nat.mul_one, eb, ct, ta.c4, ta.c3]
        refine st_th0 r1 ht2 _ ⟨e.op, IntKind.wrap .i64 ((g.th e.thread).calls + 1), true, 0, ev0⟩ rfl (by decide) (by simp [oneCell]) rfl (by simp) fun O r2 => ?_
        refine hK _ ⟨_, ?_, ?_, r2, x1.upd_in (tb_in G), (PH.upd_ne _ _ (Ne.symm q1)).trans eb⟩
        rotate_left
        · rfl
        unfold Gs.turn
        rw [if_neg (by simp [hfit]), if_pos hc, if_neg (by simp [hx])]
    have hk1 : e.kind ≠ 1 := by simpa using hc
    refine ⟨fun hc => ?_, fun hc => ?_⟩
    · -- Commit
      have hc := beq_iff_eq.1 hc
      have q2 : ∀ x ∈ G.M.all, x ≠ b := fun x hx => off x (M_in G x hx)
      have bM : b ∉ G.M.all := fun hm => q2 b hm rfl
      have lM : G.l ∉ G.M.all := fun hm => (r1.lM _ hm).1 rfl
      have tM : G.tb ∉ G.M.all := fun hm => (r1.lM _ hm).2 rfl
      refine xDraw_cut G.M.all ?_
      simp only [xNn_some, add_mk, cell_mk, upd_at, del_at, if_true, if_false, Option.bind_some, List.getElem?_toArray, List.getElem?_cons_succ, List.getElem?_cons_zero, oI_some, oS_some, oM_some, oB_some, oP_some, oT_some, xIdx_some, Nat.zero_add, Nat.add_zero, Nat.mul_one, PH.cut_at bM, PH.cut_at lM, PH.cut_at tM, eb, ct, cl, ta.c0, ta.c1, ta.c2, ta.c3, ta.c4, ta.c5, ta.c6, ta.c7, ta.c8, ta.c9, ta.c10]
      refine (meets_takes (g.th e.thread) e.event).look ?_
      simp only [oB_some]
      refine ⟨PH.cut_le _ _, fun hx => ?_, fun hx => ?_⟩
      · -- it may come
        simp only [xNn_some, add_mk, cell_mk, upd_at, del_at, if_true, if_false, Option.bind_some, List.getElem?_toArray, List.getElem?_cons_succ, List.getElem?_cons_zero, oI_some, oS_some, oM_some, oB_some, oP_some, oT_some, xIdx_some, Nat.zero_add, Nat.add_zero, Nat.mul_one, PH.cut_at bM, PH.cut_at lM, PH.cut_at tM, eb, ct, cl]
        refine (meets_Apply r1.cm e.event few).mono ?_
        rintro _ h2 ⟨rfl, rm, xm⟩
        simp only [oI_some]
        refine ⟨PH.cut_ext xm, fun hy => ?_, fun hy => ?_⟩
        · refine Added.no ?_ ?_ (x1.trans' (xm.mono (M_in G)))
          · unfold Gs.turn
            rw [if_neg (by simp [hfit]), if_neg hk1, if_pos hc, if_pos (by rw [hy]; simp)]
          · have r2 := r1.setM rm xm
            have : g.model.next e.event = g.model := by
              unfold Ms.code at hy
              unfold Ms.next
              cases hs : g.model.step e.event with
              | none => rfl
              | some m => rw [hs] at hy; simp at hy
            rw [this] at r2
            exact r2
        · have r2 := r1.setM rm xm
          have e2 : h2 b = some (.cells #[.int .i64 e.kind, .int .i64 e.thread, .int .i64 e.number, .int .i64 e.op.kind, .int .i64 e.op.obj, .int .i64 e.op.arg, .int .i64 e.event.kind, .int .i64 e.event.thread, .int .i64 e.event.obj, .int .i64 e.event.arg, .int .i64 e.event.err, .int .i64 e.value, .int .i64 e.err] 90 (0, 0)) := xm _ _ eb bM
          obtain ⟨j2, ct2⟩ := r2.ct
          have ta2 := thAt (g := { g with model := g.model.next e.event }) ht2 j2
          simp only [xNn_some, add_mk, cell_mk, upd_at, del_at, if_true, if_false, Option.bind_some, List.getElem?_toArray, List.getElem?_cons_succ, List.getElem?_cons_zero, oI_some, oS_some, oM_some, oB_some, oP_some, oT_some, xIdx_some, Nat.zero_add, Nat.add_zero, Nat.mul_one, ct2, ta2.c5]
          refine st_th r2 ht2 5 _ { g.th e.thread with many := IntKind.wrap .i64 ((g.th e.thread).many + 1) } rfl (by decide) (by simp [oneCell]) rfl (by simp) fun O r3 => ?_
          have e3 := (PH.upd_ne h2 O (Ne.symm q1)).trans e2
          simp only [xNn_some, add_mk, cell_mk, upd_at, del_at, if_true, if_false, Option.bind_some, List.getElem?_toArray, List.getElem?_cons_succ, List.getElem?_cons_zero, oI_some, oS_some, oM_some, oB_some, oP_some, oT_some, xIdx_some, Nat.zero_add, Nat.add_zero, Nat.mul_one, Ne.symm q1, e2]
          have ht3 : e.thread.toNat < ({ g with model := g.model.next e.event }.setTh e.thread { g.th e.thread with many := IntKind.wrap .i64 ((g.th e.thread).many + 1) }).threads.length := by simpa [Gs.setTh] using ht2
          refine st_th r3 ht3 6 _ { g.th e.thread with many := IntKind.wrap .i64 ((g.th e.thread).many + 1), last := e.event } rfl (by decide) (by simp [oneCell]) (by rw [th_setTh (g := { g with model := g.model.next e.event }) ht2]; rfl) (by simp) fun O r4 => ?_
          rw [setTh_setTh] at r4
          refine hK _ ⟨_, ?_, ?_, r4, ((x1.trans' (xm.mono (M_in G))).upd_in (tb_in G)).upd_in (tb_in G), (PH.upd_ne _ _ (Ne.symm q1)).trans e3⟩
          · unfold Gs.turn
            rw [if_neg (by simp [hfit]), if_neg hk1, if_pos hc, if_neg (by rw [hy]; revert hx; cases (g.th e.thread).takes e.event <;> simp)]
            rfl
          · rfl
      · refine ⟨fun _ => ?_, fun hy => ?_⟩
        · refine Added.no ?_ r1 x1
          unfold Gs.turn
          rw [if_neg (by simp [hfit]), if_neg hk1, if_pos hc, if_pos (by rw [show (!(g.th e.thread).takes e.event) = true from hx]; simp)]
        · rw [show (!(g.th e.thread).takes e.event) = true from hx] at hy; cases hy
    have hk2 : e.kind ≠ 2 := by simpa using hc
    refine ⟨fun hc => ?_, fun hc => ?_⟩
    · -- Return
      have hc := beq_iff_eq.1 hc
      simp only [xNn_some, add_mk, cell_mk, upd_at, del_at, if_true, if_false, Option.bind_some, List.getElem?_toArray, List.getElem?_cons_succ, List.getElem?_cons_zero, oI_some, oS_some, oM_some, oB_some, oP_some, oT_some, xIdx_some, Nat.zero_add, Nat.add_zero, Nat.mul_one, eb, ct, ta.c0, ta.c1, ta.c2, ta.c3, ta.c4, ta.c5, ta.c6, ta.c7, ta.c8, ta.c9, ta.c10]
      refine (meets_told (g.th e.thread)).look ?_
      simp only [toldV, oTup_mk, oIx_some, xNn_some, add_mk, cell_mk, upd_at, del_at, if_true, if_false, Option.bind_some, List.getElem?_toArray, List.getElem?_cons_succ, List.getElem?_cons_zero, oI_some, oS_some, oM_some, oB_some, oP_some, oT_some, xIdx_some, Nat.zero_add, Nat.add_zero, Nat.mul_one]
      refine ⟨rfl, ?_⟩
      refine xDraw_self ?_
      simp only [xNn_some, add_mk, cell_mk, upd_at, del_at, if_true, if_false, Option.bind_some, List.getElem?_toArray, List.getElem?_cons_succ, List.getElem?_cons_zero, oI_some, oS_some, oM_some, oB_some, oP_some, oT_some, xIdx_some, Nat.zero_add, Nat.add_zero, Nat.mul_one, eb, ct, ta.c3]
      refine xSc_or (e.number != IntKind.wrap .i64 ((g.th e.thread).calls - 1)) (fun _ J hJ => hJ) ?_
      refine xSc_or (e.value != (g.th e.thread).told.1) (fun _ J hJ => hJ) ?_
      refine xSc_or (e.err != (g.th e.thread).told.2.1) (fun _ J hJ => hJ) ⟨fun hx => ?_, fun hx => ?_⟩
      · refine Added.no ?_ r1 x1
        unfold Gs.turn
        rw [if_neg (by simp [hfit]), if_neg hk1, if_neg hk2, if_pos hc, if_pos hx]
      · try simp only [xNn_some, add_mk, cell_mk, upd_at, del_at, if_true, if_false, Option.bind_some, List.getElem?_toArray, List.getElem?_cons_succ, List.getElem?_cons_zero, oI_some, oS_some, oM_some, oB_some, oP_some, oT_some, xIdx_some, Nat.zero_add, Nat.add_zero, Nat.mul_one, eb, ct, ta.c3]
        refine st_th0 r1 ht2 _ ⟨op0, (g.th e.thread).calls, false, 0, ev0⟩ rfl (by decide) (by simp [oneCell]) rfl (by simp) fun O r2 => ?_
        refine hK _ ⟨_, ?_, ?_, r2, x1.upd_in (tb_in G), (PH.upd_ne _ _ (Ne.symm q1)).trans eb⟩
        rotate_left
        · rfl
        unfold Gs.turn
        rw [if_neg (by simp [hfit]), if_neg hk1, if_neg hk2, if_pos hc, if_neg (by simp [hx])]
    · have hk3 : e.kind ≠ 3 := by simpa using hc
      exfalso
      have : e.bare = true := by simp only [Gs.fits, Bool.and_eq_true] at hfit; exact hfit.1.1
      unfold En.bare at this
      rw [if_neg hk1, if_neg hk2, if_neg hk3] at this
      cases this
  -- it is laid behind the others
  clear ct ta cl ce r1 x1 eb
  rintro h2 ⟨g', htn, hen, r2, x2, e2⟩
  obtain ⟨c, base, cap, cl, ce⟩ := r2.cl
  have hadd : g.add e = some { g' with entries := g'.entries ++ [e] } := by simp only [Gs.add, htn]; rfl
  have hcode : g.code e = 0 := by simp only [Gs.code, hadd]; rfl
  have hnext : g.next e = { g' with entries := g'.entries ++ [e] } := by simp only [Gs.next, hadd]; rfl
  have known : ∀ x ∈ G.all, h2 x ≠ none := fun x hx n => by obtain ⟨O, hO⟩ := r2.known x hx; rw [n] at hO; cases hO
  have hlen : g'.entries.length ≤ 100000 := by rw [hen]; exact hb
  have qM := r2.lM
  have qE := r2.lE
  have qn := r2.nd
  have qlt := r2.ltb
  have bl : b ≠ G.l := fun e => off _ (l_in G) e.symm
  -- what is known behind the store
  have fin : ∀ (h3 : PH) (eb' : Nat) (cap' : Nat) (junk : List Value), (∀ x ∈ G.all, G.eb ≠ some x → h3 x = h2 x) → Ext G.all h h3 → (eb' ∈ G.all → G.eb = some eb') → (eb' ∉ G.all → h eb' = none) → eb' ≠ b →
      h3 eb' = some (.cells (recArr enL (g'.entries ++ [e]) junk) 90 (0, 0)) → junk.length = (cap' - (g'.entries.length + 1)) * 13 → g'.entries.length + 1 ≤ cap' →
      xSt 1 h3 ⟨G.l, 3, none⟩ [.slice (some ⟨eb', 0, none⟩) (g'.entries.length + 1) cap'] (fun h' => Added h G g e (.int .i64 0) h') := by
    intro h3 eb' cap' junk same x3 hin hout hne h3e hj hc
    have nl : G.eb ≠ some G.l := fun e => (qE _ e).1 rfl
    have nt : G.eb ≠ some G.tb := fun e => (qE _ e).2.1 rfl
    have nM : ∀ x ∈ G.M.all, G.eb ≠ some x := fun x hx e => (qE _ e).2.2 hx
    have el : eb' ≠ G.l := fun e => nl (e ▸ hin (e ▸ l_in G))
    have et : eb' ≠ G.tb := fun e => nt (e ▸ hin (e ▸ tb_in G))
    have eM : eb' ∉ G.M.all := fun hm => nM _ hm (hin (M_in G _ hm))
    refine xSt_mk ((same _ (l_in G) nl).trans cl) rfl (by decide) (by simp [oneCell]) (by simp) ?_
    refine ⟨by rw [hcode], { G with eb := some eb' }, rfl, ?_, x3.upd_in (l_in G), ?_⟩
    · rw [hnext]
      obtain ⟨j2, ct2⟩ := r2.ct
      refine ⟨?_, r2.nt, ⟨c, some ⟨eb', 0, none⟩, cap', ?_, .inr ⟨eb', junk, rfl, rfl, ?_, ?_, ?_⟩⟩, ⟨j2, ?_⟩, ?_⟩
      · simp only [GL.all, List.nodup_cons, List.mem_cons, List.mem_append, not_or, List.nodup_append, Option.toList, List.not_mem_nil, or_false, not_false_eq_true, List.nodup_nil, true_and] at qn ⊢
        refine ⟨⟨qn.1.1, qn.1.2.1, el.symm⟩, ⟨qn.2.1.1, et.symm⟩, qn.2.2.1, ?_⟩
        rintro a ha x rfl
        exact fun e => eM (e ▸ ha)
      · rw [PH.upd_same]; simp [setN]
      · rw [PH.upd_ne _ _ el]; exact h3e
      · rw [List.length_append]; exact hj
      · rw [List.length_append]; exact hc
      · rw [PH.upd_ne _ _ (Ne.symm qlt)]; exact (same _ (tb_in G) nt).trans ct2
      · exact r2.cm.of fun x hx => (PH.upd_ne _ _ (qM x hx).1).trans (same _ (M_in G x hx) (nM x hx))
    · intro x hx
      simp only [GL.all, List.mem_cons, List.mem_append, Option.toList, List.not_mem_nil, or_false] at hx
      rcases hx with rfl | rfl | hx | rfl
      · exact .inl (l_in G)
      · exact .inl (tb_in G)
      · exact .inl (M_in G _ hx)
      · by_cases hm : x ∈ G.all
        · exact .inl hm
        · exact .inr (hout hm)
  refine xDraw_cut G.eb.toList ?_
  have lE : G.l ∉ G.eb.toList := by
    intro hm
    cases hE : G.eb with
    | none => rw [hE] at hm; simp at hm
    | some x => rw [hE] at hm; simp at hm; exact (qE _ hE).1 hm.symm
  have bE : b ∉ G.eb.toList := by
    intro hm
    exact off b (by simp [GL.all, hm]) rfl
  simp only [xNn_some, add_mk, cell_mk, upd_at, del_at, if_true, if_false, Option.bind_some, List.getElem?_toArray, List.getElem?_cons_succ, List.getElem?_cons_zero, oI_some, oS_some, oM_some, oB_some, oP_some, oT_some, xIdx_some, Nat.zero_add, Nat.add_zero, Nat.mul_one, PH.cut_at lE, PH.cut_at bE, cl, e2]
  intro bb nbb
  have hbb : bb ≠ b := fun e => by subst e; rw [e2] at nbb; cases nbb
  refine ⟨PH.le_trans (PH.cut_le _ _) (PH.le_upd nbb), ?_⟩
  have src : srcCells (h2.upd bb (.cells #[.int .i64 e.kind, .int .i64 e.thread, .int .i64 e.number, .int .i64 e.op.kind, .int .i64 e.op.obj, .int .i64 e.op.arg, .int .i64 e.event.kind, .int .i64 e.event.thread, .int .i64 e.event.obj, .int .i64 e.event.arg, .int .i64 e.event.err, .int .i64 e.value, .int .i64 e.err] 90 (0, 0))) 13 (.slice (some ⟨bb, 0, none⟩) 1 1) (enL e) 1 := by
    refine ⟨rfl, rfl, fun i hi => ?_⟩
    simp only [add_mk, cell_mk, upd_at, if_true, Option.bind_some, Nat.zero_add, List.getElem?_toArray]
    rfl
  have inbb : bb ∉ G.all := fun hm => known bb hm nbb
  have xbb : Ext G.all h (h2.upd bb (.cells #[.int .i64 e.kind, .int .i64 e.thread, .int .i64 e.number, .int .i64 e.op.kind, .int .i64 e.op.obj, .int .i64 e.op.arg, .int .i64 e.event.kind, .int .i64 e.event.thread, .int .i64 e.event.obj, .int .i64 e.event.arg, .int .i64 e.event.err, .int .i64 e.value, .int .i64 e.err] 90 (0, 0))) := by
    intro x O hx hm
    have := x2 x O hx hm
    rw [PH.upd_ne _ _ (ne_of_known this nbb)]; exact this
  have hnone : ∀ x, h2 x = none → x ∉ G.all → h x = none := by
    intro x n hm
    cases hg : h x with
    | none => rfl
    | some O => rw [x2 x O hg hm] at n; cases n
  refine ⟨_, 1, src, by simp [enL, oneCell], by omega, ?_⟩
  rcases ce with ⟨h1, h2', rfl, rfl⟩ | ⟨eb0, j0, h1, rfl, h3, h4, h5⟩
  · rw [h2'] at fin ⊢
    refine ⟨rfl, rfl, fun hx => (by cases hx), fun _ eb' cap' junk nb' hc' hj => ?_⟩
    obtain ⟨g1, nb'⟩ := upd_none nb'
    have hm' : eb' ∉ G.all := fun hm => known _ hm nb'
    refine ⟨?_, ?_⟩
    · rw [h1]
      exact PH.le_trans (PH.cut_le _ _) (upd_le_upd nb' (PH.le_upd nbb))
    · try simp only [xNn_some, add_mk, cell_mk, upd_at, del_at, if_true, if_false, Option.bind_some, List.getElem?_toArray, List.getElem?_cons_succ, List.getElem?_cons_zero, oI_some, oS_some, oM_some, oB_some, oP_some, oT_some, xIdx_some, Nat.zero_add, Nat.add_zero, Nat.mul_one]
      refine fin _ eb' cap' junk ?_ ?_ (fun hm => absurd hm hm') (fun hm => hnone _ nb' hm) ?_ ?_ (by simpa using hj) (by simpa using hc')
      · intro x hx _
        have q1 : x ≠ eb' := fun e => hm' (e ▸ hx)
        have q2 : x ≠ bb := fun e => inbb (e ▸ hx)
        simp only [upd_at, q1, q2, if_false]
      · exact xbb.upd_new (hnone _ nb' hm')
      · intro e; subst e; rw [e2] at nb'; cases nb'
      · rw [PH.upd_same]; simp [recArr]
  · have inE : eb0 ∈ G.all := by simp [GL.all, h1]
    have e0b : eb0 ≠ bb := fun e => inbb (e ▸ inE)
    refine ⟨(g'.entries.map enL).flatten, j0, rfl, ?_, rec_len enLen _, h4, h5, fun eb' cap' junk nb' hc' hj => ?_⟩
    · rw [PH.upd_ne _ _ e0b]; exact h3
    · have key : eb' = eb0 ∨ (eb' ≠ eb0 ∧ eb' ∉ G.all ∧ h2 eb' = none) := by
        by_cases hx : eb' = eb0
        · exact .inl hx
        · rw [del_at, if_neg hx] at nb'
          have n2 := (upd_none nb').2
          exact .inr ⟨hx, fun hm => known _ hm n2, n2⟩
      have ledel : (h2.cut G.eb.toList).le ((h2.upd bb (.cells #[.int .i64 e.kind, .int .i64 e.thread, .int .i64 e.number, .int .i64 e.op.kind, .int .i64 e.op.obj, .int .i64 e.op.arg, .int .i64 e.event.kind, .int .i64 e.event.thread, .int .i64 e.event.obj, .int .i64 e.event.arg, .int .i64 e.event.err, .int .i64 e.value, .int .i64 e.err] 90 (0, 0))).del eb0) := by
        intro x O hx
        have xe : x ≠ eb0 := fun e => by subst e; rw [h1] at hx; simp [PH.cut] at hx
        rw [del_at, if_neg xe]
        exact PH.le_trans (PH.cut_le _ _) (PH.le_upd nbb) x O hx
      have cute : (h2.cut G.eb.toList) eb' = none := by
        rcases key with rfl | ⟨_, _, n⟩
        · rw [h1]; simp [PH.cut]
        · exact none_of (PH.cut_le _ _) n
      refine ⟨upd_le_upd cute ledel, ?_⟩
      try simp only [xNn_some, add_mk, cell_mk, upd_at, del_at, if_true, if_false, Option.bind_some, List.getElem?_toArray, List.getElem?_cons_succ, List.getElem?_cons_zero, oI_some, oS_some, oM_some, oB_some, oP_some, oT_some, xIdx_some, Nat.zero_add, Nat.add_zero, Nat.mul_one]
      refine fin _ eb' cap' junk ?_ ?_ ?_ ?_ ?_ ?_ hj hc'
      · intro x hx he
        have q0 : x ≠ eb0 := fun e => he (e ▸ h1)
        have q1 : x ≠ eb' := by
          rcases key with rfl | ⟨_, hm, _⟩
          · exact q0
          · exact fun e => hm (e ▸ hx)
        have q2 : x ≠ bb := fun e => inbb (e ▸ hx)
        simp only [upd_at, del_at, q0, q1, q2, if_false]
      · intro x O hx hm
        have q0 : x ≠ eb0 := fun e => hm (e ▸ inE)
        have q1 : x ≠ eb' := by
          rcases key with rfl | ⟨_, _, n⟩
          · exact q0
          · intro e; subst e
            rw [x2 x O hx hm] at n; cases n
        rw [PH.upd_ne _ _ q1, del_at, if_neg q0]
        exact xbb x O hx hm
      · intro hm
        rcases key with rfl | ⟨_, hm', _⟩
        · exact h1
        · exact absurd hm hm'
      · intro hm
        rcases key with rfl | ⟨_, _, n⟩
        · exact absurd inE hm
        · exact hnone _ n hm
      · rcases key with rfl | ⟨_, _, n⟩
        · exact off _ inE
        · intro e; subst e; rw [e2] at n; cases n
      · rw [PH.upd_same, rec_snoc]

end Go.Gh
