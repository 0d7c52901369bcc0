/-
  The walk of ModelErrors.
-/
import Derived.Test.YtnnedfhpicdacaaE1
import Derived.Test.YtnnedfhpicdacaaN1
set_option linter.unusedSimpArgs false
set_option linter.unusedVariables false
namespace Go.Md
open Go Go.Sx Go.Proofs Go.Proofs.Ytnnedfhpicdacaa

theorem MOwn.le {h0 h h' : PH} {p : Value} {s : Ms} (o : MOwn h0 h p s) (l : h.le h') : MOwn h0 h' p s := by
  obtain ⟨L, e, r, l', n⟩ := o
  exact ⟨L, e, r.le l, PH.le_trans l' l, n⟩
theorem flag_setFlag {s : Ms} {t : Int} (h : s.isThread t = true) : (s.setFlag t false).isThread t = true ∧ (s.setFlag t false).flag t = false := by
  simp only [Ms.isThread, Bool.and_eq_true, decide_eq_true_eq] at h
  have hl : t.toNat < s.flags.length := by omega
  refine ⟨by simp [Ms.isThread, Ms.setFlag]; omega, ?_⟩
  simp [Ms.flag, Ms.setFlag, List.getD_eq_getElem?_getD, hl]
theorem at_setFlag (s : Ms) (t o : Int) (b : Bool) : (s.setFlag t b).at o = s.at o := rfl

set_option maxHeartbeats 1000000 in
theorem meets_ModelErrors {h : PH} {a : Option Addr} {l c : Nat} {evs : List Ev} (hc : l ≤ c) (hl : evs.length = l) (x : EvsAt h a evs) :
    Meets Try.prog 3 #[.slice a l c] h fun v h' => v = .bool true ∧ h' = h := by
  apply Meets.same
  apply P_law14_ModelErrors_of
  unfold P_law14_ModelErrors
  refine (meets_New 4 3 3 (by decide)).mono ?_
  rintro _ h1 ⟨w, rfl, f⟩
  have o := MOwn.of_fresh (PH.le_refl h) f
  obtain ⟨p, rfl⟩ := o.ptr
  clear f
  have k0 := new_ok 4 3 3 (by decide) (by decide)
  simp only [oTup_mk, oIx_some, oP_some, oI_some, List.getElem?_toArray, List.getElem?_cons_zero, List.getElem?_cons_succ]
  refine ⟨rfl, xSc_or false (fun _ J hJ => hJ) ⟨fun hx => (by cases hx), fun _ => ?_⟩⟩
  refine (meets_short14 hc).mono ?_
  rintro _ _ ⟨⟨c', rfl⟩, rfl⟩
  simp only [oS_some]
  have x2 := x.take (min l 200)
  have hl2 : (evs.take (min l 200)).length = min l 200 := by rw [List.length_take]; omega
  have hmax : min l 200 ≤ 200 := by omega
  generalize evs.take (min l 200) = es at x2 hl2
  generalize min l 200 = n at hl2 hmax ⊢
  refine xBlk_split (fun h' => ∃ s : Ms, s.Ok ∧ MOwn h h' (.pointer (some p)) s) ?_ fun K hK => ?_
  · rintro h2 ⟨s, _, o⟩
    refine meets_alive14.look ?_
    simp only [oB_some]
    exact ⟨by trivial, o.base⟩
  refine xLoop1 (fun (i : Int) h' => 0 ≤ i ∧ i ≤ n ∧ ∃ s : Ms, s.Ok ∧ MOwn h h' (.pointer (some p)) s) (fun (i : Int) _ => ((n : Int) - i).toNat) ?_ ⟨by omega, by omega, _, k0, o⟩
  rintro J i h2 ⟨i0, i1, s, ks, o⟩ hJ
  refine ⟨fun hx => ?_, fun hx => hK _ ⟨s, ks, o⟩⟩
  have hx := of_decide_eq_true hx
  have hw : IntKind.wrap .i64 (i + 1) = i + 1 := wrap64_id (by omega) (by omega)
  have hmu : ((n : Int) - (i + 1)).toNat < ((n : Int) - i).toNat := by omega
  have j0 : 0 ≤ i + 1 := by omega
  have j1 : i + 1 ≤ n := by omega
  have hi : i.toNat < es.length := by omega
  have step : ∀ h' s', s'.Ok → MOwn h h' (.pointer (some p)) s' → J (i + 1) h' := fun h' s' k' o' => hJ _ _ ⟨j0, j1, s', k', o'⟩ hmu
  clear hJ hmu j0 j1 hK
  obtain ⟨b, rfl, c0, c1, c2, c3, c4⟩ := (x2.le o.base).at_ i.toNat es[i.toNat] (List.getElem?_eq_getElem hi)
  generalize es[i.toNat] = e at c0 c1 c2 c3 c4
  refine xBlk_split (fun h' => ∃ s' : Ms, s'.Ok ∧ MOwn h h' (.pointer (some p)) s') (fun h' ⟨s', k', o'⟩ => by rw [hw]; exact step h' s' k' o') fun K hK => ?_
  clear step
  refine ⟨b, rfl, i0, hx, ?_⟩
  simp only [c0, c1, c2, c3, c4, oI_some]
  intro b6 n6
  refine xSt_mk (PH.upd_same _ _ _) rfl (by decide) (by simp [oneCell]) (by simp) ?_
  rw [PH.upd_upd, setN5]
  have l3 := PH.le_upd (O := .cells #[.int .i64 e.kind, .int .i64 e.thread, .int .i64 e.obj, .int .i64 e.arg, .int .i64 e.err] 29 (0, 0)) n6
  have e3 := PH.upd_same h2 b6 (.cells #[.int .i64 e.kind, .int .i64 e.thread, .int .i64 e.obj, .int .i64 e.arg, .int .i64 e.err] 29 (0, 0))
  obtain ⟨L, hp, r, l0, nL⟩ := o
  have offL : b6 ∉ L.all := fun hm => by obtain ⟨O, hO⟩ := r.known _ hm; rw [n6] at hO; cases hO
  have r3 := r.le l3
  have l03 := PH.le_trans l0 l3
  generalize h2.upd b6 (.cells #[.int .i64 e.kind, .int .i64 e.thread, .int .i64 e.obj, .int .i64 e.arg, .int .i64 e.err] 29 (0, 0)) = h3 at l3 e3 r3 l03 ⊢
  rw [hp]
  refine (meets_Clone r3).mono ?_
  rintro _ h4 ⟨L', rfl, r', l4, n4⟩
  simp only [mp, oP_some]
  have r4 := r3.le l4
  have e4 := l4 _ _ e3
  have l04 := PH.le_trans l03 l4
  simp only [xNn_some, add_mk, cell_mk, upd_at, del_at, if_true, if_false, Option.bind_some, List.getElem?_toArray, List.getElem?_cons_succ, List.getElem?_cons_zero, oI_some, oS_some, oM_some, oB_some, oP_some, oT_some, xIdx_some, Nat.zero_add, Nat.add_zero, Nat.mul_one, e4]
  refine (meets_theirs14 e).look ?_
  simp only [evV, oAgg_mk, xNn_some, add_mk, cell_mk, upd_at, del_at, if_true, if_false, Option.bind_some, List.getElem?_toArray, List.getElem?_cons_succ, List.getElem?_cons_zero, oI_some, oS_some, oM_some, oB_some, oP_some, oT_some, xIdx_some, Nat.zero_add, Nat.add_zero, Nat.mul_one]
  refine ⟨rfl, ?_⟩
  refine (meets_Apply r4 e ks.few).mono ?_
  rintro _ h5 ⟨rfl, r5, x5⟩
  have e5 := x5 _ _ e4 offL
  have dis : ∀ b ∈ L'.all, b ∉ L.all := fun b hb hm => by obtain ⟨O, hO⟩ := r3.known _ hm; rw [n4 b hb] at hO; cases hO
  have r5' := r'.ext x5 dis
  have o5 : MOwn h h5 (.pointer (some p)) (s.next e) := ⟨L, hp, r5, fun y O hO => x5 y O (l04 y O hO) (fun hm => by rw [nL y hm] at hO; cases hO), nL⟩
  have k5 := next_ok ks e
  have still := next_still ks e
  have intr := begin_intr (s := s) (e := e)
  clear x5 r4 r3 e4 e3 l4 l3 n4 r' l04 l03 r
  have fin := hK h5 ⟨_, k5, o5⟩
  simp only [xNn_some, add_mk, cell_mk, upd_at, del_at, if_true, if_false, Option.bind_some, List.getElem?_toArray, List.getElem?_cons_succ, List.getElem?_cons_zero, oI_some, oS_some, oM_some, oB_some, oP_some, oT_some, xIdx_some, Nat.zero_add, Nat.add_zero, Nat.mul_one, e5]
  refine xSc_or (e.err == 10) (fun _ J hJ => hJ) ?_
  simp only [xNn_some, add_mk, cell_mk, upd_at, del_at, if_true, if_false, Option.bind_some, List.getElem?_toArray, List.getElem?_cons_succ, List.getElem?_cons_zero, oI_some, oS_some, oM_some, oB_some, oP_some, oT_some, xIdx_some, Nat.zero_add, Nat.add_zero, Nat.mul_one, e5]
  refine xSc_or (e.err == 14) (fun _ J hJ => hJ) ?_
  simp only [xNn_some, add_mk, cell_mk, upd_at, del_at, if_true, if_false, Option.bind_some, List.getElem?_toArray, List.getElem?_cons_succ, List.getElem?_cons_zero, oI_some, oS_some, oM_some, oB_some, oP_some, oT_some, xIdx_some, Nat.zero_add, Nat.add_zero, Nat.mul_one, e5]
  refine xSc_or (e.err == 11) (fun _ J hJ => hJ) ?_
  refine xSc_or (e.err == 9 || e.err == 10 || e.err == 14 || e.err == 11) (fun _ J hJ => hJ) ?_
  refine xSc_and false (fun hb J hJ => ?_) ?_
  · have hs : s.next e = s := by
      apply still
      simp only [Bool.or_eq_true, bne_iff_ne, ne_eq, beq_iff_eq] at hb
      rcases hb with hb | ((hb | hb) | hb) | hb
      · exact .inl hb
      · exact .inr (.inl hb)
      · exact .inr (.inr (.inl hb))
      · exact .inr (.inr (.inr (.inl hb)))
      · exact .inr (.inr (.inr (.inr hb)))
    rw [hs] at r5
    refine (meets_Same r5 r5' ks.once).look ?_
    simp only [oB_some]
    exact hJ
  rw [Bool.and_false]
  refine ⟨fun hx => (by cases hx), fun _ => ?_⟩
  refine xDraw_self ?_
  simp only [xNn_some, add_mk, cell_mk, upd_at, del_at, if_true, if_false, Option.bind_some, List.getElem?_toArray, List.getElem?_cons_succ, List.getElem?_cons_zero, oI_some, oS_some, oM_some, oB_some, oP_some, oT_some, xIdx_some, Nat.zero_add, Nat.add_zero, Nat.mul_one, e5]
  refine xSc_and (e.kind == 4) (fun _ J hJ => hJ) ?_
  refine xSc_and (e.err == 12) (fun _ J hJ => hJ) ?_
  refine xSc_and false (fun hb J hJ => ?_) ?_
  · simp only [Bool.and_eq_true, beq_iff_eq] at hb
    obtain ⟨i1, i2, i3⟩ := intr hb.1.1 hb.1.2 hb.2
    rw [i3] at r5
    obtain ⟨f1, f2⟩ := flag_setFlag i1
    refine (meets_Flag r5' e.thread).look ?_
    simp only [oB_some, i1, i2]
    refine ⟨PH.le_refl _, ?_⟩
    refine xSc_or false (fun _ J hJ => ?_) ?_
    · refine (meets_Flag r5 e.thread).look ?_
      simp only [oB_some, f1, f2]
      exact ⟨PH.le_refl _, hJ⟩
    refine xSc_or false (fun _ J hJ => ?_) ?_
    · refine (meets_Owner r5 e.obj).look ?_
      simp only [oI_some]
      refine ⟨PH.le_refl _, ?_⟩
      refine (meets_Owner r5' e.obj).look ?_
      simp only [oI_some, at_setFlag, bne_self_eq_false]
      exact ⟨PH.le_refl _, hJ⟩
    refine xSc_or false (fun _ J hJ => ?_) hJ
    refine (meets_Count r5 e.obj).look ?_
    simp only [oI_some]
    refine ⟨PH.le_refl _, ?_⟩
    refine (meets_Count r5' e.obj).look ?_
    simp only [oI_some, at_setFlag, bne_self_eq_false]
    exact ⟨PH.le_refl _, hJ⟩
  rw [Bool.and_false]
  exact ⟨fun hx => (by cases hx), fun _ => fin⟩

end Go.Md
