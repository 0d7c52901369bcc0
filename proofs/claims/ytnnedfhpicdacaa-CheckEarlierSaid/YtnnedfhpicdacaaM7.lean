/-
  New models, and clones.
-/
import Derived.Test.YtnnedfhpicdacaaM6
import Derived.Test.YtnnedfhpicdacaaK0
set_option linter.unusedSimpArgs false
set_option linter.unusedVariables false
namespace Go.Md
open Go Go.Sx Go.Proofs Go.Proofs.Ytnnedfhpicdacaa

theorem upd_del {h : PH} {b : Nat} {O : Obj} (n : h b = none) : (h.upd b O).del b = h := by
  funext x; simp only [del_at, upd_at]; split
  · rename_i e; subst e; exact n.symm
  · rfl

theorem meets_clone_mons {h : PH} {ob : Nat} {l : List Mo} {j : List Value} {n c : Nat} (co : h ob = some (.cells (moArr l j) 117 (0, 0))) (hn : n = l.length) (h8 : n ≤ 8) :
    Meets Try.prog 47 #[.slice (some ⟨ob, 0, none⟩) n c] h fun v h' => ∃ b cap j', v = .slice (some ⟨b, 0, none⟩) n cap ∧ h b = none ∧ h' = h.upd b (.cells (moArr l j') 117 (0, 0)) := by
  subst hn
  apply P_slices_Clone_model_monitor_model_monitor_of
  unfold P_slices_Clone_model_monitor_model_monitor
  refine ⟨fun hx => (by cases hx), fun _ => ?_⟩
  intro b5 hb5
  have hne : ob ≠ b5 := ne_of_known co hb5
  have hlen : ((l.map moV).flatten).length = l.length * 3 := by
    have := moArr_size (l := l) (junk := [])
    simpa [moArr] using this
  refine ⟨(l.map moV).flatten, l.length, ⟨rfl, hlen, ?_⟩, ?_, by omega, [], [], rfl, PH.upd_same _ _ _, rfl, by simp, Nat.le_refl _, ?_⟩
  · intro i hi
    simp only [add_mk, cell_mk, upd_at, hne, if_false, co, Option.bind_some, Nat.zero_add]
    simp only [moArr, List.getElem?_toArray]
    rw [List.getElem?_append_left (by omega)]
  · intro v hv
    simp only [List.mem_flatten, List.mem_map] at hv
    obtain ⟨_, ⟨m, _, rfl⟩, hv⟩ := hv
    simp only [moV, List.mem_cons, List.not_mem_nil, or_false] at hv
    rcases hv with rfl | rfl | rfl <;> rfl
  · intro b cap' junk hb hc hj
    rw [upd_del hb5] at hb ⊢
    simp only [Nat.zero_add] at hj ⊢
    exact ⟨b, cap', junk, rfl, hb, rfl⟩

theorem meets_clone_flags {h : PH} {fb : Nat} {l : List Bool} {j : List Value} {n c : Nat} (co : h fb = some (.cells (flArr l j) 4 (0, 0))) (hn : n = l.length) (h8 : n ≤ 8) :
    Meets Try.prog 48 #[.slice (some ⟨fb, 0, none⟩) n c] h fun v h' => ∃ b cap j', v = .slice (some ⟨b, 0, none⟩) n cap ∧ h b = none ∧ h' = h.upd b (.cells (flArr l j') 4 (0, 0)) := by
  subst hn
  apply P_slices_Clone_bool_bool_of
  unfold P_slices_Clone_bool_bool
  refine ⟨fun hx => (by cases hx), fun _ => ?_⟩
  intro b5 hb5
  have hne : fb ≠ b5 := ne_of_known co hb5
  refine ⟨l.map Value.bool, l.length, ⟨rfl, by simp, ?_⟩, ?_, by omega, [], [], rfl, PH.upd_same _ _ _, rfl, by simp, Nat.le_refl _, ?_⟩
  · intro i hi
    simp only [add_mk, cell_mk, upd_at, hne, if_false, co, Option.bind_some, Nat.zero_add]
    simp only [flArr, List.getElem?_toArray]
    rw [List.getElem?_append_left (by simpa using hi)]
  · intro v hv
    simp only [List.mem_map] at hv
    obtain ⟨b, _, rfl⟩ := hv
    rfl
  · intro b cap' junk hb hc hj
    rw [upd_del hb5] at hb ⊢
    simp only [Nat.zero_add] at hj ⊢
    exact ⟨b, cap', junk, rfl, hb, rfl⟩

theorem meets_clone_map {f : FuncId} (hc : ∀ (b : Nat) (es : Array MapEntry) (clock : Nat) (w : World), w.heap[b]? = some (.map es clock) → Calls Try.prog f #[.map (some b)] w fun e w' => e = .returned (.map (some w.heap.size)) ∧ w' = w.alloc (.map es clock))
    {h : PH} {b : Nat} {es : Array MapEntry} {cl : Nat} (hb : h b = some (.map es cl)) : Meets Try.prog f #[.map (some b)] h fun v h' => ∃ b', v = .map (some b') ∧ h b' = none ∧ h' = h.upd b' (.map es cl) := by
  intro W w st
  refine (hc b es cl w (st.sh _ _ hb)).mono ?_
  rintro e w' ⟨rfl, rfl⟩
  exact ⟨_, _, rfl, st.push _, _, rfl, st.fresh, rfl⟩
theorem meets_clone_waits {α : Type} {enc : α → Value} {h : PH} {b : Nat} {l : Pl α} (r : MapRep enc h b l) :
    Meets Try.prog 49 #[.map (some b)] h fun v h' => ∃ b' O, v = .map (some b') ∧ h b' = none ∧ h' = h.upd b' O ∧ MapRep enc h' b' l := by
  obtain ⟨es, cl, hb, x⟩ := r
  refine (meets_clone_map (fun b es clock w hb => clone_waits b es clock w hb) hb).mono ?_
  rintro v h' ⟨b', rfl, n, rfl⟩
  exact ⟨b', _, rfl, n, rfl, es, cl, PH.upd_same _ _ _, x⟩
theorem meets_clone_left {α : Type} {enc : α → Value} {h : PH} {b : Nat} {l : Pl α} (r : MapRep enc h b l) :
    Meets Try.prog 50 #[.map (some b)] h fun v h' => ∃ b' O, v = .map (some b') ∧ h b' = none ∧ h' = h.upd b' O ∧ MapRep enc h' b' l := by
  obtain ⟨es, cl, hb, x⟩ := r
  refine (meets_clone_map (fun b es clock w hb => clone_left b es clock w hb) hb).mono ?_
  rintro v h' ⟨b', rfl, n, rfl⟩
  exact ⟨b', _, rfl, n, rfl, es, cl, PH.upd_same _ _ _, x⟩

/-- A model that is new behind 'h'. -/
def Fresh (h h' : PH) (v : Value) (s : Ms) : Prop := ∃ L, v = mp L ∧ MRep h' L s ∧ h.le h' ∧ ∀ b ∈ L.all, h b = none

theorem meets_Clone {h : PH} {L : ML} {s : Ms} (r : MRep h L s) : Meets Try.prog 13 #[mp L] h fun v h' => Fresh h h' v s := by
  apply P_model_Model_Clone_of
  unfold P_model_Model_Clone
  refine (meets_ok r).look ?_
  try simp only [xNn_some, add_mk, cell_mk, upd_at, del_at, if_true, if_false, Option.bind_some, List.getElem?_toArray, List.getElem?_cons_succ, List.getElem?_cons_zero, oI_some, oS_some, oM_some, oB_some, oP_some, oT_some, xIdx_some, Nat.zero_add, Nat.add_zero, Nat.mul_one]
  refine ⟨fun hx => (by cases hx), fun _ => ?_⟩
  obtain ⟨c, c', cm⟩ := r.cm
  obtain ⟨j, co⟩ := r.co
  obtain ⟨j', cf⟩ := r.cf
  refine xDraw_self ?_
  try simp only [xNn_some, add_mk, cell_mk, upd_at, del_at, if_true, if_false, Option.bind_some, List.getElem?_toArray, List.getElem?_cons_succ, List.getElem?_cons_zero, oI_some, oS_some, oM_some, oB_some, oP_some, oT_some, xIdx_some, Nat.zero_add, Nat.add_zero, Nat.mul_one, cm]
  refine (meets_clone_mons co rfl r.nm).mono ?_
  rintro _ _ ⟨b1, cap1, j1, rfl, n1, rfl⟩
  try simp only [xNn_some, add_mk, cell_mk, upd_at, del_at, if_true, if_false, Option.bind_some, List.getElem?_toArray, List.getElem?_cons_succ, List.getElem?_cons_zero, oI_some, oS_some, oM_some, oB_some, oP_some, oT_some, xIdx_some, Nat.zero_add, Nat.add_zero, Nat.mul_one]
  have l1 : h.le _ := PH.le_upd (O := .cells (moArr s.mons j1) 117 (0, 0)) n1
  have k1 := PH.upd_same h b1 (.cells (moArr s.mons j1) 117 (0, 0))
  generalize h.upd b1 (.cells (moArr s.mons j1) 117 (0, 0)) = h1 at l1 k1 ⊢
  refine ⟨l1, ?_⟩
  refine (meets_clone_flags (l1 _ _ cf) rfl r.nf).mono ?_
  rintro _ _ ⟨b2, cap2, j2, rfl, n2, rfl⟩
  try simp only [xNn_some, add_mk, cell_mk, upd_at, del_at, if_true, if_false, Option.bind_some, List.getElem?_toArray, List.getElem?_cons_succ, List.getElem?_cons_zero, oI_some, oS_some, oM_some, oB_some, oP_some, oT_some, xIdx_some, Nat.zero_add, Nat.add_zero, Nat.mul_one]
  have l2 : h1.le _ := PH.le_upd (O := .cells (flArr s.flags j2) 4 (0, 0)) n2
  have k2 := PH.upd_same h1 b2 (.cells (flArr s.flags j2) 4 (0, 0))
  generalize h1.upd b2 (.cells (flArr s.flags j2) 4 (0, 0)) = h2 at l2 k2 ⊢
  have l2' := PH.le_trans l1 l2
  refine ⟨l2', ?_⟩
  refine (meets_clone_waits (r.le l2').cw).mono ?_
  rintro _ _ ⟨b3, O3, rfl, n3, rfl, m3⟩
  try simp only [xNn_some, add_mk, cell_mk, upd_at, del_at, if_true, if_false, Option.bind_some, List.getElem?_toArray, List.getElem?_cons_succ, List.getElem?_cons_zero, oI_some, oS_some, oM_some, oB_some, oP_some, oT_some, xIdx_some, Nat.zero_add, Nat.add_zero, Nat.mul_one]
  have l3 : h2.le _ := PH.le_upd (O := O3) n3
  have k3 := PH.upd_same h2 b3 O3
  generalize h2.upd b3 O3 = h3 at l3 k3 m3 ⊢
  have l3' := PH.le_trans l2' l3
  refine ⟨l3', ?_⟩
  refine (meets_clone_left (r.le l3').cl).mono ?_
  rintro _ _ ⟨b4, O4, rfl, n4, rfl, m4⟩
  try simp only [xNn_some, add_mk, cell_mk, upd_at, del_at, if_true, if_false, Option.bind_some, List.getElem?_toArray, List.getElem?_cons_succ, List.getElem?_cons_zero, oI_some, oS_some, oM_some, oB_some, oP_some, oT_some, xIdx_some, Nat.zero_add, Nat.add_zero, Nat.mul_one]
  have l4 : h3.le _ := PH.le_upd (O := O4) n4
  have k4 := PH.upd_same h3 b4 O4
  generalize h3.upd b4 O4 = h4 at l4 k4 m4 ⊢
  have l4' := PH.le_trans l3' l4
  refine ⟨l4', ?_⟩
  intro b0 n0
  have lz : h4.le _ := PH.le_upd (O := .cells #[.int .i64 s.most, .slice (some ⟨b1, 0, none⟩) s.mons.length cap1, .slice (some ⟨b2, 0, none⟩) s.flags.length cap2, .map (some b3), .map (some b4)] 45 (0, 0)) n0
  have kz := PH.upd_same h4 b0 (.cells #[.int .i64 s.most, .slice (some ⟨b1, 0, none⟩) s.mons.length cap1, .slice (some ⟨b2, 0, none⟩) s.flags.length cap2, .map (some b3), .map (some b4)] 45 (0, 0))
  generalize h4.upd b0 (.cells #[.int .i64 s.most, .slice (some ⟨b1, 0, none⟩) s.mons.length cap1, .slice (some ⟨b2, 0, none⟩) s.flags.length cap2, .map (some b3), .map (some b4)] 45 (0, 0)) = h5 at lz kz ⊢
  refine ⟨PH.le_trans l4' lz, ⟨b0, b1, b2, b3, b4⟩, rfl, ?_, PH.le_trans l4' lz, ?_⟩
  · have d12 : b1 ≠ b2 := ne_of_known k1 n2
    have d13 : b1 ≠ b3 := ne_of_known (l2 _ _ k1) n3
    have d14 : b1 ≠ b4 := ne_of_known (l3 _ _ (l2 _ _ k1)) n4
    have d10 : b1 ≠ b0 := ne_of_known (l4 _ _ (l3 _ _ (l2 _ _ k1))) n0
    have d23 : b2 ≠ b3 := ne_of_known k2 n3
    have d24 : b2 ≠ b4 := ne_of_known (l3 _ _ k2) n4
    have d20 : b2 ≠ b0 := ne_of_known (l4 _ _ (l3 _ _ k2)) n0
    have d34 : b3 ≠ b4 := ne_of_known k3 n4
    have d30 : b3 ≠ b0 := ne_of_known (l4 _ _ k3) n0
    have d40 : b4 ≠ b0 := ne_of_known k4 n0
    refine ⟨?_, r.nm, r.nf, ⟨cap1, cap2, kz⟩, ⟨j1, lz _ _ (l4 _ _ (l3 _ _ (l2 _ _ k1)))⟩, ⟨j2, lz _ _ (l4 _ _ (l3 _ _ k2))⟩, ?_, ?_⟩
    · simp only [ML.all, List.nodup_cons, List.mem_cons, List.not_mem_nil, or_false, not_or, not_false_eq_true, List.nodup_nil, and_true]
      exact ⟨⟨d10.symm, d20.symm, d30.symm, d40.symm⟩, ⟨d12, d13, d14⟩, ⟨d23, d24⟩, d34⟩
    · exact m3.of ((lz _ _ (l4 _ _ k3)).trans k3.symm)
    · exact m4.of ((lz _ _ k4).trans k4.symm)
  · have none_of : ∀ {g g' : PH} {b : Nat}, g.le g' → g' b = none → g b = none := by
      intro g g' b l n
      cases hg : g b with
      | none => rfl
      | some O => rw [l _ _ hg] at n; cases n
    intro b hb
    simp only [ML.all, List.mem_cons, List.not_mem_nil, or_false] at hb
    rcases hb with rfl | rfl | rfl | rfl | rfl
    · exact none_of l4' n0
    · exact n1
    · exact none_of l1 n2
    · exact none_of l2' n3
    · exact none_of l3' n4

end Go.Md
