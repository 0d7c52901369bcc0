/-
  A model that nobody made; the walk of ModelClones.
-/
import Derived.Test.YtnnedfhpicdacaaE2
set_option linter.unusedSimpArgs false
set_option linter.unusedVariables false
namespace Go.Md
open Go Go.Sx Go.Proofs Go.Proofs.Ytnnedfhpicdacaa

/-- A model that nobody made: the nil one, or an empty one. -/
def NoM (h : PH) (p : Option Addr) : Prop := p = none ∨ ∃ b, p = some ⟨b, 0, none⟩ ∧ h b = some (.cells #[.int .i64 0, .slice none 0 0, .slice none 0 0, .map none, .map none] 45 (0, 0))
theorem NoM.le {h h' : PH} {p : Option Addr} (n : NoM h p) (l : h.le h') : NoM h' p := by
  rcases n with n | ⟨b, e, hb⟩
  · exact .inl n
  · exact .inr ⟨b, e, l _ _ hb⟩
theorem NoM.isnt {h : PH} {p : Option Addr} (n : NoM h p) : Meets Try.prog 46 #[.pointer p] h fun v h' => v = .bool false ∧ h' = h := by
  rcases n with rfl | ⟨b, rfl, hb⟩
  · exact meets_ok_nil
  · apply P_model_Model_ok_of
    unfold P_model_Model_ok
    refine xSc_and false (fun _ J hJ => ?_) ⟨by trivial, by trivial⟩
    simp only [xNn_some, add_mk, cell_mk, upd_at, del_at, if_true, if_false, Option.bind_some, List.getElem?_toArray, List.getElem?_cons_succ, List.getElem?_cons_zero, oI_some, oS_some, oM_some, oB_some, oP_some, oT_some, xIdx_some, Nat.zero_add, Nat.add_zero, Nat.mul_one, hb]
    exact hJ
theorem NoM.may {h : PH} {p : Option Addr} (n : NoM h p) (e : Ev) : Meets Try.prog 51 #[.pointer p, evV e] h fun v h' => v = .bool false ∧ h' = h := by
  apply Meets.same
  apply P_model_Model_may_of
  unfold P_model_Model_may
  intro b nb
  have l := PH.le_upd (O := .cells #[.int .i64 e.kind, .int .i64 e.thread, .int .i64 e.obj, .int .i64 e.arg, .int .i64 e.err] 33 (0, 0)) nb
  refine xDraw_self ?_
  refine (n.le l).isnt.look ?_
  simp only [oB_some]
  refine ⟨PH.le_refl _, xSc_and false (fun hx => (by cases hx)) ?_⟩
  refine xSc_and false (fun hx => (by cases hx)) ?_
  exact xSc_and false (fun hx => (by cases hx)) ⟨by trivial, l⟩
theorem NoM.apply {h : PH} {p : Option Addr} (n : NoM h p) (e : Ev) : Meets Try.prog 14 #[.pointer p, evV e] h fun v h' => v = .int .i64 15 ∧ h' = h := by
  apply Meets.same
  apply P_model_Model_Apply_of
  unfold P_model_Model_Apply
  intro b nb
  have l := PH.le_upd (O := .cells #[.int .i64 e.kind, .int .i64 e.thread, .int .i64 e.obj, .int .i64 e.arg, .int .i64 e.err] 33 (0, 0)) nb
  simp only [xNn_some, add_mk, cell_mk, upd_at, del_at, if_true, if_false, Option.bind_some, List.getElem?_toArray, List.getElem?_cons_succ, List.getElem?_cons_zero, oI_some, oS_some, oM_some, oB_some, oP_some, oT_some, xIdx_some, Nat.zero_add, Nat.add_zero, Nat.mul_one]
  refine ((n.le l).may e).look ?_
  simp only [xNn_some, add_mk, cell_mk, upd_at, del_at, if_true, if_false, Option.bind_some, List.getElem?_toArray, List.getElem?_cons_succ, List.getElem?_cons_zero, oI_some, oS_some, oM_some, oB_some, oP_some, oT_some, xIdx_some, Nat.zero_add, Nat.add_zero, Nat.mul_one]
  exact xSc_or true (fun hx => (by cases hx)) ⟨fun _ => ⟨by trivial, l⟩, fun hx => (by cases hx)⟩
theorem NoM.at {h : PH} {p : Option Addr} (n : NoM h p) (o : Int) : Meets Try.prog 58 #[.pointer p, .int .i64 o] h fun v h' => v = moA ⟨-1, 0, 0⟩ ∧ h' = h := by
  apply Meets.same
  apply P_model_Model_at_of
  unfold P_model_Model_at
  intro b nb
  have l := PH.le_upd (O := .cells #[.int .i64 0, .int .i64 0, .int .i64 0] 117 (0, 0)) nb
  refine (n.le l).isnt.look ?_
  simp only [xNn_some, add_mk, cell_mk, upd_at, del_at, if_true, if_false, Option.bind_some, List.getElem?_toArray, List.getElem?_cons_succ, List.getElem?_cons_zero, oI_some, oS_some, oM_some, oB_some, oP_some, oT_some, xIdx_some, Nat.zero_add, Nat.add_zero, Nat.mul_one]
  refine xSc_or true (fun hx => (by cases hx)) ⟨fun _ => ?_, fun hx => (by cases hx)⟩
  refine xSt_mk (PH.upd_same _ _ _) rfl (by decide) (by simp [oneCell]) (by simp) ?_
  rw [PH.upd_upd, setN3]
  simp only [xNn_some, add_mk, cell_mk, upd_at, del_at, if_true, if_false, Option.bind_some, List.getElem?_toArray, List.getElem?_cons_succ, List.getElem?_cons_zero, oI_some, oS_some, oM_some, oB_some, oP_some, oT_some, xIdx_some, Nat.zero_add, Nat.add_zero, Nat.mul_one]
  exact ⟨by trivial, PH.le_upd nb⟩
theorem NoM.owner {h : PH} {p : Option Addr} (n : NoM h p) (o : Int) : Meets Try.prog 18 #[.pointer p, .int .i64 o] h fun v h' => v = .int .i64 (-1) ∧ h' = h := by
  apply P_model_Model_Owner_of
  unfold P_model_Model_Owner
  refine (n.at o).look ?_
  simp only [moA, oAgg_mk, xNn_some, add_mk, cell_mk, upd_at, del_at, if_true, if_false, Option.bind_some, List.getElem?_toArray, List.getElem?_cons_succ, List.getElem?_cons_zero, oI_some, oS_some, oM_some, oB_some, oP_some, oT_some, xIdx_some, Nat.zero_add, Nat.add_zero, Nat.mul_one]
  simp
theorem NoM.count {h : PH} {p : Option Addr} (n : NoM h p) (o : Int) : Meets Try.prog 19 #[.pointer p, .int .i64 o] h fun v h' => v = .int .i64 0 ∧ h' = h := by
  apply P_model_Model_Count_of
  unfold P_model_Model_Count
  refine (n.at o).look ?_
  simp only [moA, oAgg_mk, xNn_some, add_mk, cell_mk, upd_at, del_at, if_true, if_false, Option.bind_some, List.getElem?_toArray, List.getElem?_cons_succ, List.getElem?_cons_zero, oI_some, oS_some, oM_some, oB_some, oP_some, oT_some, xIdx_some, Nat.zero_add, Nat.add_zero, Nat.mul_one]
  simp
theorem NoM.hash {h : PH} {p : Option Addr} (n : NoM h p) (o : Int) : Meets Try.prog 21 #[.pointer p, .int .i64 o] h fun v h' => v = .int .i64 0 ∧ h' = h := by
  apply P_model_Model_Hash_of
  unfold P_model_Model_Hash
  refine (n.at o).look ?_
  simp only [moA, oAgg_mk, xNn_some, add_mk, cell_mk, upd_at, del_at, if_true, if_false, Option.bind_some, List.getElem?_toArray, List.getElem?_cons_succ, List.getElem?_cons_zero, oI_some, oS_some, oM_some, oB_some, oP_some, oT_some, xIdx_some, Nat.zero_add, Nat.add_zero, Nat.mul_one]
  simp
theorem NoM.waiters {h : PH} {p : Option Addr} (n : NoM h p) (o : Int) : Meets Try.prog 22 #[.pointer p, .int .i64 o] h fun v h' => v = .slice none 0 0 ∧ h' = h := by
  apply P_model_Model_Waiters_of
  unfold P_model_Model_Waiters
  refine n.isnt.look ?_
  simp only [oB_some]
  exact ⟨fun _ => ⟨by trivial, by trivial⟩, fun hx => (by cases hx)⟩
theorem NoM.left {h : PH} {p : Option Addr} (n : NoM h p) (o : Int) : Meets Try.prog 23 #[.pointer p, .int .i64 o] h fun v h' => v = .slice none 0 0 ∧ h' = h := by
  apply P_model_Model_Left_of
  unfold P_model_Model_Left
  refine n.isnt.look ?_
  simp only [oB_some]
  exact ⟨fun _ => ⟨by trivial, by trivial⟩, fun hx => (by cases hx)⟩
theorem NoM.flag {h : PH} {p : Option Addr} (n : NoM h p) (t : Int) : Meets Try.prog 17 #[.pointer p, .int .i64 t] h fun v h' => v = .bool false ∧ h' = h := by
  apply P_model_Model_Flag_of
  unfold P_model_Model_Flag
  refine n.isnt.look ?_
  simp only [oB_some]
  refine xSc_and false (fun hx => (by cases hx)) ?_
  exact xSc_and false (fun hx => (by cases hx)) ⟨by trivial, by trivial⟩
theorem NoM.clone {h : PH} {p : Option Addr} (n : NoM h p) : Meets Try.prog 13 #[.pointer p] h fun v h' => v = .pointer none ∧ h' = h := by
  apply P_model_Model_Clone_of
  unfold P_model_Model_Clone
  refine n.isnt.look ?_
  simp only [oB_some]
  exact ⟨fun _ => ⟨by trivial, by trivial⟩, fun hx => (by cases hx)⟩
theorem NoM.same {h : PH} {p : Option Addr} (n : NoM h p) : Meets Try.prog 16 #[.pointer p, .pointer none] h fun v h' => v = .bool true ∧ h' = h := by
  apply P_model_Model_Same_of
  unfold P_model_Model_Same
  refine n.isnt.look ?_
  simp only [oB_some]
  refine xSc_or true (fun hx => (by cases hx)) ⟨fun _ => ?_, fun hx => (by cases hx)⟩
  refine n.isnt.look ?_
  simp only [oB_some]
  refine meets_ok_nil.look ?_
  simp only [oB_some]
  exact ⟨by trivial, by trivial⟩
/-- One that was made is not the nil one. -/
theorem meets_Same_nil {h : PH} {L : ML} {s : Ms} (r : MRep h L s) : Meets Try.prog 16 #[mp L, .pointer none] h fun v h' => v = .bool false ∧ h' = h := by
  apply P_model_Model_Same_of
  unfold P_model_Model_Same
  refine (meets_ok r).look ?_
  simp only [oB_some]
  refine xSc_or true (fun _ J hJ => ?_) ⟨fun _ => ?_, fun hx => (by cases hx)⟩
  · refine meets_ok_nil.look ?_
    simp only [oB_some]
    exact hJ
  refine (meets_ok r).look ?_
  simp only [oB_some]
  refine meets_ok_nil.look ?_
  simp only [oB_some]
  exact ⟨by trivial, by trivial⟩

/-- Three models apart: one as it was, two in step. -/
structure Three (h0 h : PH) (L A B : ML) (sm s : Ms) : Prop where
  m : MRep h L sm
  a : MRep h A s
  b : MRep h B s
  le : h0.le h
  n : ∀ x ∈ L.all ++ A.all ++ B.all, h0 x = none
  la : ∀ x ∈ A.all, x ∉ L.all
  lb : ∀ x ∈ B.all, x ∉ L.all
  ab : ∀ x ∈ B.all, x ∉ A.all
theorem Three.grow {h0 h h' : PH} {L A B : ML} {sm s : Ms} (t : Three h0 h L A B sm s) (l : h.le h') : Three h0 h' L A B sm s :=
  ⟨t.m.le l, t.a.le l, t.b.le l, PH.le_trans t.le l, t.n, t.la, t.lb, t.ab⟩
theorem Three.base {h0 h h' : PH} {L A B : ML} {sm s : Ms} (t : Three h0 h L A B sm s) (S : List Nat) (hS : ∀ x ∈ S, x ∈ L.all ++ A.all ++ B.all) (x : Ext S h h') : h0.le h' :=
  fun y O hy => x y O (t.le y O hy) fun hm => by rw [t.n y (hS y hm)] at hy; cases hy

set_option maxHeartbeats 2000000 in
theorem meets_ModelClones {h : PH} {a a' : Option Addr} {l c l' c' : Nat} {evs evs' : List Ev} (hc : l ≤ c) (hl : evs.length = l) (x : EvsAt h a evs) (hc' : l' ≤ c') (hl' : evs'.length = l') (x' : EvsAt h a' evs') :
    Meets Try.prog 4 #[.slice a l c, .slice a' l' c'] h fun v h' => v = .bool true ∧ h' = h := by
  apply Meets.same
  apply P_law14_ModelClones_of
  unfold P_law14_ModelClones
  intro b16 n16
  have l1 := PH.le_upd (O := .cells #[.int .i64 0, .slice none 0 0, .slice none 0 0, .map none, .map none] 45 (0, 0)) n16
  have e16 := PH.upd_same h b16 (.cells #[.int .i64 0, .slice none 0 0, .slice none 0 0, .map none, .map none] 45 (0, 0))
  generalize h.upd b16 (.cells #[.int .i64 0, .slice none 0 0, .slice none 0 0, .map none, .map none] 45 (0, 0)) = h1 at l1 e16 ⊢
  intro b17 n17
  have l2 := PH.le_upd (O := .cells #[.pointer none, .pointer (some ⟨b16, 0, none⟩)] 23 (0, 0)) n17
  have e17 := PH.upd_same h1 b17 (.cells #[.pointer none, .pointer (some ⟨b16, 0, none⟩)] 23 (0, 0))
  generalize h1.upd b17 (.cells #[.pointer none, .pointer (some ⟨b16, 0, none⟩)] 23 (0, 0)) = h2 at l2 e17 ⊢
  have le0 := PH.le_trans l1 l2
  have f16 := l2 _ _ e16
  clear l1 l2 n16 n17 e16
  refine xBlk_split (fun h' => h' = h2) ?_ fun K hK => ?_
  rotate_left
  · refine xLoop1 (fun (i : Int) h' => h' = h2 ∧ 0 ≤ i ∧ i ≤ 2) (fun i _ => (2 - i).toNat) ?_ ⟨rfl, by omega, by omega⟩
    rintro J i h3 ⟨rfl, i0, i2⟩ hJ
    refine ⟨fun hx => ?_, fun hx => hK _ rfl⟩
    have hx : i < 2 := by simpa using hx
    have hw : IntKind.wrap .i64 (i + 1) = i + 1 := wrap64_id (by omega) (by omega)
    have hmu : (2 - (i + 1)).toNat < (2 - i).toNat := by omega
    have step := hJ (i + 1) h3 ⟨rfl, by omega, by omega⟩ hmu
    have two : i = 0 ∨ i = 1 := by omega
    obtain ⟨p, hp, no⟩ : ∃ p, (#[Value.pointer none, .pointer (some ⟨b16, 0, none⟩)] : Array Value)[i.toNat]? = some (.pointer p) ∧ NoM h3 p := by
      rcases two with rfl | rfl
      · exact ⟨none, rfl, .inl rfl⟩
      · exact ⟨some ⟨b16, 0, none⟩, rfl, .inr ⟨b16, rfl, f16⟩⟩
    refine xBlk_split (fun h' => h' = h3) (fun h' e => by subst e; rw [hw]; exact step) fun K' hK' => ?_
    clear hK hJ step
    simp only [xNn_some, add_mk, cell_mk, upd_at, del_at, if_true, if_false, Option.bind_some, List.getElem?_toArray, List.getElem?_cons_succ, List.getElem?_cons_zero, oI_some, oS_some, oM_some, oB_some, oP_some, oT_some, xIdx_some, Nat.zero_add, Nat.add_zero, Nat.mul_one, e17, hp]
    refine ⟨i0, hx, ?_⟩
    refine (no.apply ⟨1, 0, 0, 0, 0⟩).look ?_
    simp only [oI_some]
    refine xSc_or false (fun _ J hJ => ?_) ?_
    · refine (no.owner 0).look ?_
      simp only [oI_some]
      exact hJ
    refine xSc_or false (fun _ J hJ => ?_) ?_
    · refine (no.count 0).look ?_
      simp only [oI_some]
      refine (no.hash 0).look ?_
      simp only [oI_some]
      refine (no.waiters 0).look ?_
      simp only [oS_some]
      refine (no.left 0).look ?_
      simp only [oS_some]
      exact hJ
    refine xSc_or false (fun _ J hJ => ?_) ?_
    · refine (no.flag 0).look ?_
      simp only [oB_some]
      exact hJ
    refine xSc_or false (fun _ J hJ => ?_) ?_
    · refine no.clone.look ?_
      simp only [oP_some]
      exact hJ
    refine xSc_or false (fun _ J hJ => ?_) ?_
    · refine no.same.look ?_
      simp only [oB_some]
      exact hJ
    exact ⟨fun hx => (by cases hx), fun _ => hK' _ rfl⟩
  rintro h3 rfl
  clear e17 f16
  refine (meets_New 4 3 3 (by decide)).mono ?_
  rintro _ h4 ⟨w, rfl, f⟩
  have o := MOwn.of_fresh le0 f
  clear f le0
  obtain ⟨p, rfl⟩ := o.ptr
  have k0 := new_ok 4 3 3 (by decide) (by decide)
  generalize Ms.new 4 3 3 = s0 at o k0
  simp only [oTup_mk, oIx_some, oP_some, oI_some, List.getElem?_toArray, List.getElem?_cons_zero, List.getElem?_cons_succ]
  refine ⟨rfl, xSc_or false (fun _ J hJ => hJ) ?_⟩
  refine xSc_or false (fun _ J hJ => ?_) ⟨fun hx => (by cases hx), fun _ => ?_⟩
  · obtain ⟨L, hp, r, _, _⟩ := o
    rw [hp]
    refine (meets_Same_nil r).look ?_
    simp only [oB_some]
    exact hJ
  refine (meets_short14 hc).mono ?_
  rintro _ _ ⟨⟨c2, rfl⟩, rfl⟩
  simp only [oS_some]
  have x2 := x.take (min l 200)
  have hl2 : (evs.take (min l 200)).length = min l 200 := by rw [List.length_take]; omega
  have hmax : min l 200 ≤ 200 := by omega
  generalize evs.take (min l 200) = es at x2 hl2
  generalize min l 200 = n at hl2 hmax ⊢
  refine xBlk_split (fun h' => ∃ s : Ms, s.Ok ∧ MOwn h h' (.pointer (some p)) s) ?_ fun K hK => ?_
  rotate_left
  · refine xLoop1 (fun (i : Int) h' => 0 ≤ i ∧ i ≤ n ∧ ∃ s : Ms, s.Ok ∧ MOwn h h' (.pointer (some p)) s) (fun (i : Int) _ => ((n : Int) - i).toNat) ?_ ⟨by omega, by omega, _, k0, o⟩
    rintro J i h2 ⟨i0, i1, s, ks, o⟩ hJ
    refine ⟨fun hx => ?_, fun hx => hK _ ⟨s, ks, o⟩⟩
    have hx := of_decide_eq_true hx
    have hw : IntKind.wrap .i64 (i + 1) = i + 1 := wrap64_id (by omega) (by omega)
    have hmu : ((n : Int) - (i + 1)).toNat < ((n : Int) - i).toNat := by omega
    have j0 : 0 ≤ i + 1 := by omega
    have j1 : i + 1 ≤ n := by omega
    have hi : i.toNat < es.length := by omega
    have step : ∀ h' s', s'.Ok → MOwn h h' (.pointer (some p)) s' → J (i + 1) h' := fun h' s' k' o' => hJ _ _ ⟨j0, j1, s', k', o'⟩ hmu
    clear hJ hmu j0 j1 hK
    obtain ⟨b, rfl, c0, c1, c2, c3, c4⟩ := (x2.le o.base).at_ i.toNat es[i.toNat] (List.getElem?_eq_getElem hi)
    generalize es[i.toNat] = e at c0 c1 c2 c3 c4
    refine xBlk_split (fun h' => ∃ s' : Ms, s'.Ok ∧ MOwn h h' (.pointer (some p)) s') (fun h' ⟨s', k', o'⟩ => by rw [hw]; exact step h' s' k' o') fun K hK => ?_
    clear step
    refine ⟨b, rfl, i0, hx, ?_⟩
    simp only [c0, c1, c2, c3, c4, oI_some]
    intro b6 n6
    refine xSt_mk (PH.upd_same _ _ _) rfl (by decide) (by simp [oneCell]) (by simp) ?_
    rw [PH.upd_upd, setN5]
    have l3 := PH.le_upd (O := .cells #[.int .i64 e.kind, .int .i64 e.thread, .int .i64 e.obj, .int .i64 e.arg, .int .i64 e.err] 29 (0, 0)) n6
    have e3 := PH.upd_same h2 b6 (.cells #[.int .i64 e.kind, .int .i64 e.thread, .int .i64 e.obj, .int .i64 e.arg, .int .i64 e.err] 29 (0, 0))
    have o3 := o.le l3
    generalize h2.upd b6 (.cells #[.int .i64 e.kind, .int .i64 e.thread, .int .i64 e.obj, .int .i64 e.arg, .int .i64 e.err] 29 (0, 0)) = h3 at l3 e3 o3 ⊢
    simp only [xNn_some, add_mk, cell_mk, upd_at, del_at, if_true, if_false, Option.bind_some, List.getElem?_toArray, List.getElem?_cons_succ, List.getElem?_cons_zero, oI_some, oS_some, oM_some, oB_some, oP_some, oT_some, xIdx_some, Nat.zero_add, Nat.add_zero, Nat.mul_one, e3]
    refine (meets_theirs14 e).look ?_
    simp only [evV, oAgg_mk, xNn_some, add_mk, cell_mk, upd_at, del_at, if_true, if_false, Option.bind_some, List.getElem?_toArray, List.getElem?_cons_succ, List.getElem?_cons_zero, oI_some, oS_some, oM_some, oB_some, oP_some, oT_some, xIdx_some, Nat.zero_add, Nat.add_zero, Nat.mul_one]
    refine ⟨rfl, ?_⟩
    refine (o3.apply e ks.few).mono ?_
    rintro _ h5 ⟨rfl, o5⟩
    simp only [oI_some]
    exact hK _ ⟨_, next_ok ks e, o5⟩
  clear x x2 hl2 hmax o k0
  rintro h5 ⟨sm, ksm, L, hp, r, l5, nL⟩
  rw [hp]
  refine (meets_Clone r).mono ?_
  rintro _ h6 ⟨A, rfl, ra, l6, nA⟩
  simp only [mp, oP_some]
  refine (meets_Clone (r.le l6)).mono ?_
  rintro _ h7 ⟨B, rfl, rb, l7, nB⟩
  simp only [mp, oP_some]
  have kn : ∀ {g : PH} {M : ML} {s : Ms}, MRep g M s → ∀ {x : Nat}, g x = none → x ∉ M.all := fun {g M s} rm x hn hm => by
    obtain ⟨O, hO⟩ := rm.known x hm; rw [hn] at hO; cases hO
  have t : Three h h7 L A B sm sm := by
    refine ⟨(r.le l6).le l7, ra.le l7, rb, PH.le_trans l5 (PH.le_trans l6 l7), ?_, ?_, ?_, ?_⟩
    · intro x hx
      rcases List.mem_append.1 hx with hx | hx
      · rcases List.mem_append.1 hx with hx | hx
        · exact nL x hx
        · exact none_of l5 (nA x hx)
      · exact none_of l5 (none_of l6 (nB x hx))
    · exact fun x hx => kn r (nA x hx)
    · exact fun x hx => kn (r.le l6) (nB x hx)
    · exact fun x hx => kn ra (nB x hx)
  clear kn r l5 nL ra l6 nA rb l7 nB
  refine (meets_Same t.a t.m ksm.once).look ?_
  simp only [oB_some]
  refine xSc_or false (fun _ J hJ => ?_) ⟨fun hx => (by cases hx), fun _ => ?_⟩
  · refine (meets_Same t.m t.b ksm.once).look ?_
    simp only [oB_some]
    exact hJ
  refine (meets_short14 hc').mono ?_
  rintro _ _ ⟨⟨c2, rfl⟩, rfl⟩
  simp only [oS_some]
  have x2 := x'.take (min l' 200)
  have hl2 : (evs'.take (min l' 200)).length = min l' 200 := by rw [List.length_take]; omega
  have hmax : min l' 200 ≤ 200 := by omega
  generalize evs'.take (min l' 200) = es at x2 hl2
  generalize min l' 200 = n at hl2 hmax ⊢
  refine xBlk_split (fun h' => ∃ s : Ms, s.Ok ∧ Three h h' L A B sm s) ?_ fun K hK => ?_
  rotate_left
  · refine xLoop1 (fun (i : Int) h' => 0 ≤ i ∧ i ≤ n ∧ ∃ s : Ms, s.Ok ∧ Three h h' L A B sm s) (fun (i : Int) _ => ((n : Int) - i).toNat) ?_ ⟨by omega, by omega, _, ksm, t⟩
    rintro J i h2 ⟨i0, i1, s, ks, o⟩ hJ
    refine ⟨fun hx => ?_, fun hx => hK _ ⟨s, ks, o⟩⟩
    have hx := of_decide_eq_true hx
    have hw : IntKind.wrap .i64 (i + 1) = i + 1 := wrap64_id (by omega) (by omega)
    have hmu : ((n : Int) - (i + 1)).toNat < ((n : Int) - i).toNat := by omega
    have j0 : 0 ≤ i + 1 := by omega
    have j1 : i + 1 ≤ n := by omega
    have hi : i.toNat < es.length := by omega
    have step : ∀ h' s', s'.Ok → Three h h' L A B sm s' → J (i + 1) h' := fun h' s' k' o' => hJ _ _ ⟨j0, j1, s', k', o'⟩ hmu
    clear hJ hmu j0 j1 hK
    obtain ⟨b, rfl, c0, c1, c2, c3, c4⟩ := (x2.le o.le).at_ i.toNat es[i.toNat] (List.getElem?_eq_getElem hi)
    generalize es[i.toNat] = e at c0 c1 c2 c3 c4
    refine xBlk_split (fun h' => ∃ s' : Ms, s'.Ok ∧ Three h h' L A B sm s') (fun h' ⟨s', k', o'⟩ => by rw [hw]; exact step h' s' k' o') fun K hK => ?_
    clear step
    refine ⟨b, rfl, i0, hx, ?_⟩
    simp only [c0, c1, c2, c3, c4, oI_some]
    intro b6 n6
    refine xSt_mk (PH.upd_same _ _ _) rfl (by decide) (by simp [oneCell]) (by simp) ?_
    rw [PH.upd_upd, setN5]
    have l3 := PH.le_upd (O := .cells #[.int .i64 e.kind, .int .i64 e.thread, .int .i64 e.obj, .int .i64 e.arg, .int .i64 e.err] 29 (0, 0)) n6
    have e3 := PH.upd_same h2 b6 (.cells #[.int .i64 e.kind, .int .i64 e.thread, .int .i64 e.obj, .int .i64 e.arg, .int .i64 e.err] 29 (0, 0))
    have o3 := o.grow l3
    have bA : b6 ∉ A.all := fun hm => by obtain ⟨O, hO⟩ := o.a.known b6 hm; rw [n6] at hO; cases hO
    have bB : b6 ∉ B.all := fun hm => by obtain ⟨O, hO⟩ := o.b.known b6 hm; rw [n6] at hO; cases hO
    generalize h2.upd b6 (.cells #[.int .i64 e.kind, .int .i64 e.thread, .int .i64 e.obj, .int .i64 e.arg, .int .i64 e.err] 29 (0, 0)) = h3 at l3 e3 o3 ⊢
    refine xDraw_cut (A.all ++ B.all) ?_
    have cutle : ∀ {h' : PH}, Ext (A.all ++ B.all) h3 h' → (h3.cut (A.all ++ B.all)).le h' := fun x => PH.cut_ext x
    have e3c : (h3.cut (A.all ++ B.all)) b6 = some (.cells #[.int .i64 e.kind, .int .i64 e.thread, .int .i64 e.obj, .int .i64 e.arg, .int .i64 e.err] 29 (0, 0)) := (PH.cut_at (by simp [bA, bB])).trans e3
    simp only [xNn_some, add_mk, cell_mk, upd_at, del_at, if_true, if_false, Option.bind_some, List.getElem?_toArray, List.getElem?_cons_succ, List.getElem?_cons_zero, oI_some, oS_some, oM_some, oB_some, oP_some, oT_some, xIdx_some, Nat.zero_add, Nat.add_zero, Nat.mul_one, e3c]
    refine (meets_theirs14 e).look ?_
    simp only [evV, oAgg_mk, xNn_some, add_mk, cell_mk, upd_at, del_at, if_true, if_false, Option.bind_some, List.getElem?_toArray, List.getElem?_cons_succ, List.getElem?_cons_zero, oI_some, oS_some, oM_some, oB_some, oP_some, oT_some, xIdx_some, Nat.zero_add, Nat.add_zero, Nat.mul_one]
    refine ⟨rfl, PH.cut_le _ _, ?_⟩
    refine (meets_Apply o3.a e ks.few).mono ?_
    rintro _ h5 ⟨rfl, ra5, xa⟩
    simp only [oI_some]
    have e5 := xa _ _ e3 bA
    have rb5 := o3.b.ext xa o3.ab
    have rm5 := o3.m.ext xa (fun x hx hm => o3.la x hm hx)
    have xab : Ext (A.all ++ B.all) h3 h5 := xa.mono fun x hx => List.mem_append_left _ hx
    refine ⟨cutle xab, ?_⟩
    refine (meets_theirs14 e).look ?_
    simp only [evV, oAgg_mk, xNn_some, add_mk, cell_mk, upd_at, del_at, if_true, if_false, Option.bind_some, List.getElem?_toArray, List.getElem?_cons_succ, List.getElem?_cons_zero, oI_some, oS_some, oM_some, oB_some, oP_some, oT_some, xIdx_some, Nat.zero_add, Nat.add_zero, Nat.mul_one]
    refine ⟨rfl, cutle xab, ?_⟩
    refine (meets_Apply rb5 e ks.few).mono ?_
    rintro _ h6 ⟨rfl, rb6, xb⟩
    simp only [oI_some]
    have ra6 := ra5.ext xb (fun x hx hm => o3.ab x hm hx)
    have rm6 := rm5.ext xb (fun x hx hm => o3.lb x hm hx)
    have xab6 : Ext (A.all ++ B.all) h3 h6 := xab.trans' (xb.mono fun x hx => List.mem_append_right _ hx)
    have k6 := next_ok ks e
    refine ⟨cutle xab6, ?_⟩
    simp only [bne_self_eq_false]
    refine xSc_or false (fun _ J hJ => ?_) ⟨fun hx => (by cases hx), fun _ => ?_⟩
    · refine (meets_Same ra6 rb6 k6.once).look ?_
      simp only [oB_some]
      exact ⟨cutle xab6, hJ⟩
    · exact hK _ ⟨_, k6, rm6, ra6, rb6, o3.base _ (fun x hx => by rcases List.mem_append.1 hx with h | h <;> simp [h]) xab6, o3.n, o3.la, o3.lb, o3.ab⟩
  rintro h8 ⟨s, ks, t8⟩
  refine (meets_Apply t8.a ⟨12, 0, 0, 1, 0⟩ ks.few).mono ?_
  rintro _ h9 ⟨rfl, ra9, x9⟩
  simp only [oI_some]
  have rm9 := t8.m.ext x9 (fun x hx hm => t8.la x hm hx)
  have le9 := t8.base _ (fun x hx => by simp [hx]) x9
  refine (meets_Clone rm9).mono ?_
  rintro _ h10 ⟨C, rfl, rc, l10, nC⟩
  simp only [mp, oP_some]
  refine (meets_Same (rm9.le l10) rc ksm.once).look ?_
  simp only [oB_some]
  refine xSc_and true (fun _ J hJ => ?_) ⟨rfl, PH.le_trans le9 l10⟩
  refine meets_alive14.look ?_
  simp only [oB_some]
  exact hJ

end Go.Md
