/-
  Two models of the same value are the same.
-/
import Derived.Test.YtnnedfhpicdacaaM9
import Derived.Test.YtnnedfhpicdacaaT0
set_option linter.unusedSimpArgs false
set_option linter.unusedVariables false
namespace Go.Md
open Go Go.Sx Go.Proofs Go.Proofs.Ytnnedfhpicdacaa

theorem meets_equal_mons {h : PH} {a b : Nat} {l : List Mo} {j j' : List Value} {c c' : Nat} (ha : h a = some (.cells (moArr l j) 117 (0, 0))) (hb : h b = some (.cells (moArr l j') 117 (0, 0))) (h8 : l.length ≤ 8) :
    Meets Try.prog 53 #[.slice (some ⟨a, 0, none⟩) l.length c, .slice (some ⟨b, 0, none⟩) l.length c'] h fun v h' => v = .bool true ∧ h' = h := by
  apply P_slices_Equal_model_monitor_model_monitor_of
  unfold P_slices_Equal_model_monitor_model_monitor
  refine ⟨fun hx => ?_, fun _ => ?_⟩
  · simp at hx
  refine xLoop1 (fun (x : Int) h' => h' = h ∧ 0 ≤ x ∧ x ≤ l.length) (fun (x : Int) _ => ((l.length : Int) - x).toNat) ?_ ⟨rfl, by omega, by omega⟩
  rintro J x _ ⟨rfl, x0, x1⟩ hJ
  refine ⟨fun hc => ?_, fun hc => ⟨rfl, rfl⟩⟩
  have hc := of_decide_eq_true hc
  have hn : x.toNat < l.length := by omega
  have hw : IntKind.wrap .i64 (x + 1) = x + 1 := wrap64_id (by omega) (by omega)
  have hmu : ((l.length : Int) - (x + 1)).toNat < ((l.length : Int) - x).toNat := by omega
  have x0' : 0 ≤ x + 1 := by omega
  have x1' : x + 1 ≤ l.length := by omega
  refine xDraw_self ?_
  simp only [xNn_some, add_mk, cell_mk, upd_at, del_at, if_true, if_false, Option.bind_some, List.getElem?_toArray, List.getElem?_cons_succ, List.getElem?_cons_zero, oI_some, oS_some, oM_some, oB_some, oP_some, oT_some, xIdx_some, Nat.zero_add, Nat.add_zero, Nat.mul_one, ha, hb, moArr_0 hn, moArr_1 hn, moArr_2 hn]
  refine ⟨x0, hc, x0, hc, true, ?_, fun hx => (by cases hx), fun _ => ?_⟩
  · have := eqLaw_ints (P := Try.prog) (t := 117) [.i64, .i64, .i64] [(l.getD x.toNat ⟨-1, 0, 0⟩).owner, (l.getD x.toNat ⟨-1, 0, 0⟩).count, (l.getD x.toNat ⟨-1, 0, 0⟩).hash] [(l.getD x.toNat ⟨-1, 0, 0⟩).owner, (l.getD x.toNat ⟨-1, 0, 0⟩).count, (l.getD x.toNat ⟨-1, 0, 0⟩).hash] (by kernel_rfl) rfl rfl
    rw [show ([(l.getD x.toNat ⟨-1, 0, 0⟩).owner, (l.getD x.toNat ⟨-1, 0, 0⟩).count, (l.getD x.toNat ⟨-1, 0, 0⟩).hash] == [(l.getD x.toNat ⟨-1, 0, 0⟩).owner, (l.getD x.toNat ⟨-1, 0, 0⟩).count, (l.getD x.toNat ⟨-1, 0, 0⟩).hash]) = true from by simp] at this
    exact this
  · rw [hw]
    exact hJ _ _ ⟨rfl, x0', x1'⟩ hmu

theorem meets_equal_flags {h : PH} {a b : Nat} {l : List Bool} {j j' : List Value} {c c' : Nat} (ha : h a = some (.cells (flArr l j) 4 (0, 0))) (hb : h b = some (.cells (flArr l j') 4 (0, 0))) (h8 : l.length ≤ 8) :
    Meets Try.prog 54 #[.slice (some ⟨a, 0, none⟩) l.length c, .slice (some ⟨b, 0, none⟩) l.length c'] h fun v h' => v = .bool true ∧ h' = h := by
  apply P_slices_Equal_bool_bool_of
  unfold P_slices_Equal_bool_bool
  refine ⟨fun hx => ?_, fun _ => ?_⟩
  · simp at hx
  refine xLoop1 (fun (x : Int) h' => h' = h ∧ 0 ≤ x ∧ x ≤ l.length) (fun (x : Int) _ => ((l.length : Int) - x).toNat) ?_ ⟨rfl, by omega, by omega⟩
  rintro J x _ ⟨rfl, x0, x1⟩ hJ
  refine ⟨fun hc => ?_, fun hc => ⟨rfl, rfl⟩⟩
  have hc := of_decide_eq_true hc
  have hn : x.toNat < l.length := by omega
  have hw : IntKind.wrap .i64 (x + 1) = x + 1 := wrap64_id (by omega) (by omega)
  have hmu : ((l.length : Int) - (x + 1)).toNat < ((l.length : Int) - x).toNat := by omega
  have x0' : 0 ≤ x + 1 := by omega
  have x1' : x + 1 ≤ l.length := by omega
  refine xDraw_self ?_
  simp only [xNn_some, add_mk, cell_mk, upd_at, del_at, if_true, if_false, Option.bind_some, List.getElem?_toArray, List.getElem?_cons_succ, List.getElem?_cons_zero, oI_some, oS_some, oM_some, oB_some, oP_some, oT_some, xIdx_some, Nat.zero_add, Nat.add_zero, Nat.mul_one, ha, hb, flArr_get hn]
  refine ⟨x0, hc, x0, hc, fun hx => ?_, fun _ => ?_⟩
  · simp at hx
  · rw [hw]
    exact hJ _ _ ⟨rfl, x0', x1'⟩ hmu

theorem meets_equal_waits {h : PH} {a b : Nat} {l : Pl (Int)} (ra : MapRep encI h a l) (rb : MapRep encI h b l) (ho : Pl.Once l) : Meets Try.prog 55 #[.map (some a), .map (some b)] h fun v h' => v = .bool true ∧ h' = h := by
  apply Meets.same
  have rb' := rb
  obtain ⟨es, cl, ea, en, st⟩ := ra
  obtain ⟨es', cl', eb, en', st'⟩ := rb
  have hlen : es.size = es'.size := by
    have h1 := congrArg List.length en
    have h2 := congrArg List.length en'
    simp at h1 h2; omega
  apply P_maps_Equal_map_model_place_int_map_model_place_int_model_place_int_of
  unfold P_maps_Equal_map_model_place_int_map_model_place_int_model_place_int
  refine .inl ⟨a, es, cl, rfl, ea, .inl ⟨b, es', cl', rfl, eb, ⟨fun hx => ?_, fun _ => ?_⟩⟩⟩
  · rw [hlen] at hx; simp at hx
  refine ⟨a, es, cl, rfl, ea, fun bi nbi => ?_⟩
  refine xLoop0 (fun h' => h.le h' ∧ ∃ seen : Array Nat, h' bi = some (.mapIter (some a) cl seen cl)) (fun h' => match h' bi with | some (.mapIter _ _ seen _) => leftOf es.toList seen | _ => 0) ?_ ⟨PH.le_upd nbi, #[], PH.upd_same _ _ _⟩
  rintro J h1 ⟨l1, seen, ei⟩ hJ
  refine ⟨a, cl, seen, cl, es, cl, ei, l1 _ _ ea, fun _ hne => st.all hne, fun hov => ?_, fun e he hs => ?_⟩
  · refine ⟨_, rfl, fun hx => (by cases hx), fun _ => ?_⟩
    exact ⟨rfl, l1⟩
  · refine ⟨_, rfl, fun _ => ?_, fun hx => (by cases hx)⟩
    have he' : e ∈ es.toList := by simpa using he
    obtain ⟨p, hp, hk, hv⟩ := en.mem he'
    have l2 : h.le (h1.upd bi (.mapIter (some a) cl (seen.push e.born) cl)) := upd_le_upd nbi l1
    have ei2 := PH.upd_same h1 bi (.mapIter (some a) cl (seen.push e.born) cl)
    have less := left_push he' hs
    generalize h1.upd bi (.mapIter (some a) cl (seen.push e.born) cl) = h2 at l2 ei2 ⊢
    refine ⟨a, cl, seen.push e.born, cl, es, e, e.born, ei2, back_push _ _, l2 _ _ ea, ?_, ?_⟩
    · have := st.find he'
      simpa using this
    rw [hk, hv]
    simp only [key2, encI, oAgg_mk, xNn_some, add_mk, cell_mk, upd_at, del_at, if_true, if_false, Option.bind_some, List.getElem?_toArray, List.getElem?_cons_succ, List.getElem?_cons_zero, oI_some, oS_some, oM_some, oB_some, oP_some, oT_some, xIdx_some, Nat.zero_add, Nat.add_zero, Nat.mul_one]
    refine ⟨rfl, ?_⟩
    intro b5 n5
    refine xSt_mk (PH.upd_same _ _ _) rfl (by decide) (by simp [oneCell]) (by simp) ?_
    rw [PH.upd_upd, setN2]
    have l3 := PH.le_upd (O := .cells #[.int .i64 p.1, .int .i64 p.2.1] 122 (0, 0)) n5
    have e3 := PH.upd_same h2 b5 (.cells #[.int .i64 p.1, .int .i64 p.2.1] 122 (0, 0))
    generalize h2.upd b5 (.cells #[.int .i64 p.1, .int .i64 p.2.1] 122 (0, 0)) = h3 at l3 e3 ⊢
    have l4 := PH.le_trans l2 l3
    simp only [xNn_some, add_mk, cell_mk, upd_at, del_at, if_true, if_false, Option.bind_some, List.getElem?_toArray, List.getElem?_cons_succ, List.getElem?_cons_zero, oI_some, oS_some, oM_some, oB_some, oP_some, oT_some, xIdx_some, Nat.zero_add, Nat.add_zero, Nat.mul_one, e3]
    refine look_rep (MapRep.of rb' (by rw [eb]; exact l4 _ _ eb)) p.1 p.2.1 ?_
    rw [Pl.find_mem ho hp]
    simp only [Option.map_some, Option.getD_some, encI, Option.isSome_some, xNn_some, add_mk, cell_mk, upd_at, del_at, if_true, if_false, Option.bind_some, List.getElem?_toArray, List.getElem?_cons_succ, List.getElem?_cons_zero, oI_some, oS_some, oM_some, oB_some, oP_some, oT_some, xIdx_some, Nat.zero_add, Nat.add_zero, Nat.mul_one]
    refine xSc_or false (fun _ J hJ => ?_) ⟨fun hx => (by cases hx), fun _ => ?_⟩
    · simpa using hJ
    refine hJ _ ⟨l4, seen.push e.born, l3 _ _ ei2⟩ ?_
    rw [l3 _ _ ei2, ei]
    exact less


theorem meets_equal_left {h : PH} {a b : Nat} {l : Pl (Int × Int)} (ra : MapRep encL h a l) (rb : MapRep encL h b l) (ho : Pl.Once l) : Meets Try.prog 56 #[.map (some a), .map (some b)] h fun v h' => v = .bool true ∧ h' = h := by
  apply Meets.same
  have rb' := rb
  obtain ⟨es, cl, ea, en, st⟩ := ra
  obtain ⟨es', cl', eb, en', st'⟩ := rb
  have hlen : es.size = es'.size := by
    have h1 := congrArg List.length en
    have h2 := congrArg List.length en'
    simp at h1 h2; omega
  apply P_maps_Equal_map_model_place_model_left_map_model_place_model_left_model_place_model_left_of
  unfold P_maps_Equal_map_model_place_model_left_map_model_place_model_left_model_place_model_left
  refine .inl ⟨a, es, cl, rfl, ea, .inl ⟨b, es', cl', rfl, eb, ⟨fun hx => ?_, fun _ => ?_⟩⟩⟩
  · rw [hlen] at hx; simp at hx
  refine ⟨a, es, cl, rfl, ea, fun bi nbi => ?_⟩
  refine xLoop0 (fun h' => h.le h' ∧ ∃ seen : Array Nat, h' bi = some (.mapIter (some a) cl seen cl)) (fun h' => match h' bi with | some (.mapIter _ _ seen _) => leftOf es.toList seen | _ => 0) ?_ ⟨PH.le_upd nbi, #[], PH.upd_same _ _ _⟩
  rintro J h1 ⟨l1, seen, ei⟩ hJ
  refine ⟨a, cl, seen, cl, es, cl, ei, l1 _ _ ea, fun _ hne => st.all hne, fun hov => ?_, fun e he hs => ?_⟩
  · refine ⟨_, rfl, fun hx => (by cases hx), fun _ => ?_⟩
    exact ⟨rfl, l1⟩
  · refine ⟨_, rfl, fun _ => ?_, fun hx => (by cases hx)⟩
    have he' : e ∈ es.toList := by simpa using he
    obtain ⟨p, hp, hk, hv⟩ := en.mem he'
    have l2 : h.le (h1.upd bi (.mapIter (some a) cl (seen.push e.born) cl)) := upd_le_upd nbi l1
    have ei2 := PH.upd_same h1 bi (.mapIter (some a) cl (seen.push e.born) cl)
    have less := left_push he' hs
    generalize h1.upd bi (.mapIter (some a) cl (seen.push e.born) cl) = h2 at l2 ei2 ⊢
    refine ⟨a, cl, seen.push e.born, cl, es, e, e.born, ei2, back_push _ _, l2 _ _ ea, ?_, ?_⟩
    · have := st.find he'
      simpa using this
    rw [hk, hv]
    simp only [key2, encL, oAgg_mk, xNn_some, add_mk, cell_mk, upd_at, del_at, if_true, if_false, Option.bind_some, List.getElem?_toArray, List.getElem?_cons_succ, List.getElem?_cons_zero, oI_some, oS_some, oM_some, oB_some, oP_some, oT_some, xIdx_some, Nat.zero_add, Nat.add_zero, Nat.mul_one]
    refine ⟨rfl, rfl, ?_⟩
    intro b5 n5
    intro b6 n6
    obtain ⟨q56, n6'⟩ := upd_none n6
    refine xSt_mk ((PH.upd_ne _ _ q56).trans (PH.upd_same _ _ _)) rfl (by decide) (by simp [oneCell]) (by simp) ?_
    rw [setN2]
    have l3 : h2.le (((h2.upd b5 (.cells #[.int .i64 0, .int .i64 0] 122 (0, 0))).upd b6 (.cells #[.int .i64 0, .int .i64 0] 125 (0, 0))).upd b5 (.cells #[.int .i64 p.1, .int .i64 p.2.1] 122 (0, 0))) := upd_le_upd n5 (upd_le_upd n6' (PH.le_upd n5))
    have e5 := PH.upd_same ((h2.upd b5 (.cells #[.int .i64 0, .int .i64 0] 122 (0, 0))).upd b6 (.cells #[.int .i64 0, .int .i64 0] 125 (0, 0))) b5 (.cells #[.int .i64 p.1, .int .i64 p.2.1] 122 (0, 0))
    have e6 : (((h2.upd b5 (.cells #[.int .i64 0, .int .i64 0] 122 (0, 0))).upd b6 (.cells #[.int .i64 0, .int .i64 0] 125 (0, 0))).upd b5 (.cells #[.int .i64 p.1, .int .i64 p.2.1] 122 (0, 0))) b6 = some (.cells #[.int .i64 0, .int .i64 0] 125 (0, 0)) := (PH.upd_ne _ _ (Ne.symm q56)).trans (PH.upd_same _ _ _)
    generalize (((h2.upd b5 (.cells #[.int .i64 0, .int .i64 0] 122 (0, 0))).upd b6 (.cells #[.int .i64 0, .int .i64 0] 125 (0, 0))).upd b5 (.cells #[.int .i64 p.1, .int .i64 p.2.1] 122 (0, 0))) = h3 at l3 e5 e6 ⊢
    refine xSt_mk e6 rfl (by decide) (by simp [oneCell]) (by simp) ?_
    rw [setN2]
    have l3 := PH.le_trans l3 (show h3.le h3 from PH.le_refl _)
    have l4 : h2.le (h3.upd b6 (.cells #[.int .i64 p.2.2.1, .int .i64 p.2.2.2] 125 (0, 0))) := upd_le_upd n6' l3
    have e5' : (h3.upd b6 (.cells #[.int .i64 p.2.2.1, .int .i64 p.2.2.2] 125 (0, 0))) b5 = _ := (PH.upd_ne _ _ q56).trans e5
    have e6' := PH.upd_same h3 b6 (.cells #[.int .i64 p.2.2.1, .int .i64 p.2.2.2] 125 (0, 0))
    generalize h3.upd b6 (.cells #[.int .i64 p.2.2.1, .int .i64 p.2.2.2] 125 (0, 0)) = h4 at l4 e5' e6' ⊢
    have l5 := PH.le_trans l2 l4
    simp only [xNn_some, add_mk, cell_mk, upd_at, del_at, if_true, if_false, Option.bind_some, List.getElem?_toArray, List.getElem?_cons_succ, List.getElem?_cons_zero, oI_some, oS_some, oM_some, oB_some, oP_some, oT_some, xIdx_some, Nat.zero_add, Nat.add_zero, Nat.mul_one, e5']
    refine look_rep (MapRep.of rb' (by rw [eb]; exact l5 _ _ eb)) p.1 p.2.1 ?_
    rw [Pl.find_mem ho hp]
    simp only [Option.map_some, Option.getD_some, Option.isSome_some, encL, oAgg_mk, xNn_some, add_mk, cell_mk, upd_at, del_at, if_true, if_false, Option.bind_some, List.getElem?_toArray, List.getElem?_cons_succ, List.getElem?_cons_zero, oI_some, oS_some, oM_some, oB_some, oP_some, oT_some, xIdx_some, Nat.zero_add, Nat.add_zero, Nat.mul_one]
    refine ⟨rfl, rfl, ?_⟩
    intro b7 n7
    refine xSt_mk (PH.upd_same _ _ _) rfl (by decide) (by simp [oneCell]) (by simp) ?_
    rw [PH.upd_upd, setN2]
    have l6 := PH.le_upd (O := .cells #[.int .i64 p.2.2.1, .int .i64 p.2.2.2] 125 (0, 0)) n7
    have e7 := PH.upd_same h4 b7 (.cells #[.int .i64 p.2.2.1, .int .i64 p.2.2.2] 125 (0, 0))
    generalize h4.upd b7 (.cells #[.int .i64 p.2.2.1, .int .i64 p.2.2.2] 125 (0, 0)) = h5 at l6 e7 ⊢
    refine xSc_or false (fun _ J hJ => ?_) ⟨fun hx => (by cases hx), fun _ => ?_⟩
    · simp only [xNn_some, add_mk, cell_mk, upd_at, del_at, if_true, if_false, Option.bind_some, List.getElem?_toArray, List.getElem?_cons_succ, List.getElem?_cons_zero, oI_some, oS_some, oM_some, oB_some, oP_some, oT_some, xIdx_some, Nat.zero_add, Nat.add_zero, Nat.mul_one, e7, l6 _ _ e6']
      refine ⟨true, ?_, hJ⟩
      have := eqLaw_ints (P := Try.prog) (t := 125) [.i64, .i64] [p.2.2.1, p.2.2.2] [p.2.2.1, p.2.2.2] (by kernel_rfl) rfl rfl
      rw [show ([p.2.2.1, p.2.2.2] == [p.2.2.1, p.2.2.2]) = true from by simp] at this
      exact this
    have ei5 := l6 _ _ (l4 _ _ ei2)
    refine hJ _ ⟨PH.le_trans l5 l6, seen.push e.born, ei5⟩ ?_
    rw [ei5, ei]
    exact less

theorem meets_Same {h : PH} {L L' : ML} {s : Ms} (r : MRep h L s) (r' : MRep h L' s) (ho : s.Once) : Meets Try.prog 16 #[mp L, mp L'] h fun v h' => v = .bool true ∧ h' = h := by
  apply P_model_Model_Same_of
  unfold P_model_Model_Same
  obtain ⟨c1, c2, cm⟩ := r.cm
  obtain ⟨c3, c4, cm'⟩ := r'.cm
  obtain ⟨j1, co⟩ := r.co
  obtain ⟨j2, co'⟩ := r'.co
  obtain ⟨j3, cf⟩ := r.cf
  obtain ⟨j4, cf'⟩ := r'.cf
  refine (meets_ok r).look ?_
  simp only [oB_some]
  refine xSc_or false (fun _ J hJ => ?_) ⟨fun hx => (by cases hx), fun _ => ?_⟩
  · refine (meets_ok r').look ?_
    simp only [oB_some]
    exact hJ
  refine xDraw_self ?_
  simp only [xNn_some, add_mk, cell_mk, upd_at, del_at, if_true, if_false, Option.bind_some, List.getElem?_toArray, List.getElem?_cons_succ, List.getElem?_cons_zero, oI_some, oS_some, oM_some, oB_some, oP_some, oT_some, xIdx_some, Nat.zero_add, Nat.add_zero, Nat.mul_one, cm, cm']
  refine xSc_and true (fun _ J hJ => ?_) ?_
  · refine (meets_equal_mons co co' r.nm).look ?_
    simp only [oB_some]
    exact ⟨PH.le_refl _, hJ⟩
  refine xSc_and true (fun _ J hJ => ?_) ?_
  · refine (meets_equal_flags cf cf' r.nf).look ?_
    simp only [oB_some]
    exact ⟨PH.le_refl _, hJ⟩
  refine xSc_and true (fun _ J hJ => ?_) ?_
  · refine (meets_equal_waits r.cw r'.cw ho.w).look ?_
    simp only [oB_some]
    exact ⟨PH.le_refl _, hJ⟩
  refine xSc_and true (fun _ J hJ => ?_) ?_
  · refine (meets_equal_left r.cl r'.cl ho.l).look ?_
    simp only [oB_some]
    exact ⟨PH.le_refl _, hJ⟩
  exact ⟨by simp, rfl⟩

end Go.Md
