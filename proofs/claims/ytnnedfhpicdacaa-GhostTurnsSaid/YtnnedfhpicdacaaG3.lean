/-
  What is done to a log.
-/
import Derived.Test.YtnnedfhpicdacaaG2
set_option linter.unusedSimpArgs false
set_option linter.unusedVariables false
namespace Go.Gh
open Go Go.Sx Go.Md Go.Proofs Go.Proofs.Ytnnedfhpicdacaa

theorem enLen (e : En) : (enL e).length = 13 := rfl
theorem thLen (t : Th) : (thL t).length = 11 := rfl

/-- A log that is new behind 'h'. -/
def GFresh (h h' : PH) (v : Value) (g : Gs) : Prop := ∃ G, v = gp G ∧ GRep h' G g ∧ h.le h' ∧ ∀ b ∈ G.all, h b = none

theorem meets_gNew {h : PH} (t o c : Int) (hn : newOk t o c = true) : Meets Try.prog 39 #[.int .i64 t, .int .i64 o, .int .i64 c] h fun v h' => ∃ w, v = .tuple #[w, .int .i64 0] ∧ GFresh h h' w (Gs.new t o c) := by
  have hr : (1 ≤ t ∧ t ≤ 8) ∧ (1 ≤ o ∧ o ≤ 8) ∧ (1 ≤ c ∧ c ≤ 60) := by simpa [newOk, inRange] using hn
  obtain ⟨⟨t1, t2⟩, _⟩ := hr
  have t8 : t.toNat ≤ 8 := by omega
  apply P_ghost_New_of
  unfold P_ghost_New
  refine (meets_New t o c hn).mono ?_
  rintro _ h1 ⟨w, rfl, M, rfl, rM, l1, fM⟩
  simp only [oTup_mk, mp, xNn_some, add_mk, cell_mk, upd_at, del_at, if_true, if_false, Option.bind_some, List.getElem?_toArray, List.getElem?_cons_succ, List.getElem?_cons_zero, oI_some, oS_some, oM_some, oB_some, oP_some, oT_some, xIdx_some, Nat.zero_add, Nat.add_zero, Nat.mul_one, oIx_some]
  refine ⟨rfl, fun hx => (by cases hx), fun _ => ?_⟩
  refine ⟨by omega, by omega, by omega, by omega, ?_⟩
  intro tb ntb
  intro l nl
  have le1 : h1.le _ := PH.le_upd (O := .cells (List.replicate t.toNat [Value.int .i64 0, .int .i64 0, .int .i64 0, .int .i64 0, .bool false, .int .i64 0, .int .i64 0, .int .i64 0, .int .i64 0, .int .i64 0, .int .i64 0]).flatten.toArray 147 (0, 0)) ntb
  have nl1 := none_of le1 nl
  have le2 : h1.le _ := upd_le_upd nl1 (O := .cells #[.int .i64 o, .pointer (some ⟨M.m, 0, none⟩), .slice (some ⟨tb, 0, none⟩) t.toNat t.toNat, .slice none 0 0] 109 (0, 0)) le1
  have dlt : l ≠ tb := fun e => by subst e; simp at nl
  refine ⟨_, rfl, ⟨l, tb, M, none⟩, rfl, ?_, PH.le_trans l1 le2, ?_⟩
  · refine ⟨?_, by simpa [Gs.new] using t8, ⟨t.toNat, none, 0, by simp [Gs.new], .inl ⟨rfl, rfl, rfl, rfl⟩⟩, ⟨[], ?_⟩, rM.le le2⟩
    · simp only [GL.all, Option.toList, List.append_nil, List.nodup_cons, List.mem_cons, not_or]
      refine ⟨⟨dlt, fun hm => ?_⟩, fun hm => ?_, rM.nd⟩
      · obtain ⟨O, hO⟩ := rM.known _ hm
        rw [nl1] at hO; cases hO
      · obtain ⟨O, hO⟩ := rM.known _ hm
        rw [ntb] at hO; cases hO
    · simp only [upd_at, Ne.symm dlt, if_false, if_true]
      congr 2
      simp only [recArr, List.append_nil, Gs.new, List.map_replicate]
      rfl
  · intro b hb
    simp only [GL.all, Option.toList, List.append_nil, List.mem_cons] at hb
    rcases hb with rfl | rfl | hb
    · exact none_of l1 nl1
    · exact none_of l1 ntb
    · exact fM b hb

theorem meets_gNew_no {h : PH} (t o c : Int) (hn : newOk t o c = false) : Meets Try.prog 39 #[.int .i64 t, .int .i64 o, .int .i64 c] h fun v h' => v = .tuple #[.pointer none, .int .i64 1] ∧ h' = h := by
  apply P_ghost_New_of
  unfold P_ghost_New
  refine (meets_New_no t o c hn).look ?_
  simp only [oTup_mk, xNn_some, add_mk, cell_mk, upd_at, del_at, if_true, if_false, Option.bind_some, List.getElem?_toArray, List.getElem?_cons_succ, List.getElem?_cons_zero, oI_some, oS_some, oM_some, oB_some, oP_some, oT_some, xIdx_some, Nat.zero_add, Nat.add_zero, Nat.mul_one, oIx_some]
  exact ⟨rfl, fun _ => by simp, fun hx => (by cases hx)⟩

theorem meets_gLen {h : PH} {G : GL} {g : Gs} (r : GRep h G g) : Meets Try.prog 43 #[gp G] h fun v h' => v = .int .i64 g.entries.length ∧ h' = h := by
  obtain ⟨c, base, cap, cl, ce⟩ := r.cl
  apply P_ghost_Log_Len_of
  unfold P_ghost_Log_Len
  refine (meets_gok r).look ?_
  simp only [oB_some]
  refine ⟨fun hx => (by cases hx), fun _ => ?_⟩
  simp only [xNn_some, add_mk, cell_mk, upd_at, del_at, if_true, if_false, Option.bind_some, List.getElem?_toArray, List.getElem?_cons_succ, List.getElem?_cons_zero, oI_some, oS_some, oM_some, oB_some, oP_some, oT_some, xIdx_some, Nat.zero_add, Nat.add_zero, Nat.mul_one, cl]
  simp

theorem meets_gModel {h : PH} {G : GL} {g : Gs} (r : GRep h G g) : Meets Try.prog 44 #[gp G] h fun v h' => Fresh h h' v g.model := by
  obtain ⟨c, base, cap, cl, ce⟩ := r.cl
  apply P_ghost_Log_Model_of
  unfold P_ghost_Log_Model
  refine (meets_gok r).look ?_
  simp only [oB_some]
  refine ⟨fun hx => (by cases hx), fun _ => ?_⟩
  simp only [xNn_some, add_mk, cell_mk, upd_at, del_at, if_true, if_false, Option.bind_some, List.getElem?_toArray, List.getElem?_cons_succ, List.getElem?_cons_zero, oI_some, oS_some, oM_some, oB_some, oP_some, oT_some, xIdx_some, Nat.zero_add, Nat.add_zero, Nat.mul_one, cl]
  refine (meets_Clone r.cm).mono ?_
  rintro _ h' ⟨L, rfl, x⟩
  simp only [mp, xNn_some, add_mk, cell_mk, upd_at, del_at, if_true, if_false, Option.bind_some, List.getElem?_toArray, List.getElem?_cons_succ, List.getElem?_cons_zero, oI_some, oS_some, oM_some, oB_some, oP_some, oT_some, xIdx_some, Nat.zero_add, Nat.add_zero, Nat.mul_one]
  exact ⟨L, rfl, x⟩

/-- Entries in a row, new behind 'h'. -/
def EFresh (h h' : PH) (v : Value) (l : List En) : Prop := (l = [] ∧ v = .slice none 0 0 ∧ h' = h) ∨ ∃ b cap junk, v = .slice (some ⟨b, 0, none⟩) l.length cap ∧ h b = none ∧ h' = h.upd b (.cells (recArr enL l junk) 90 (0, 0))

theorem meets_gAll {h : PH} {G : GL} {g : Gs} (r : GRep h G g) (hb : g.entries.length ≤ 100000) : Meets Try.prog 41 #[gp G] h fun v h' => EFresh h h' v g.entries := by
  obtain ⟨c, base, cap, cl, ce⟩ := r.cl
  apply P_ghost_Log_All_of
  unfold P_ghost_Log_All
  refine (meets_gok r).look ?_
  simp only [oB_some]
  refine ⟨fun hx => (by cases hx), fun _ => ?_⟩
  simp only [xNn_some, add_mk, cell_mk, upd_at, del_at, if_true, if_false, Option.bind_some, List.getElem?_toArray, List.getElem?_cons_succ, List.getElem?_cons_zero, oI_some, oS_some, oM_some, oB_some, oP_some, oT_some, xIdx_some, Nat.zero_add, Nat.add_zero, Nat.mul_one, cl]
  rcases ce with ⟨h1, h2, rfl, rfl⟩ | ⟨eb, j, h1, rfl, h3, h4⟩
  · apply P_slices_Clone_ghost_Entry_ghost_Entry_of
    unfold P_slices_Clone_ghost_Entry_ghost_Entry
    refine ⟨fun _ => ?_, fun hx => (by cases hx)⟩
    simp only [xNn_some, add_mk, cell_mk, upd_at, del_at, if_true, if_false, Option.bind_some, List.getElem?_toArray, List.getElem?_cons_succ, List.getElem?_cons_zero, oI_some, oS_some, oM_some, oB_some, oP_some, oT_some, xIdx_some, Nat.zero_add, Nat.add_zero, Nat.mul_one]
    exact .inl ⟨h2, rfl, rfl⟩
  · apply P_slices_Clone_ghost_Entry_ghost_Entry_of
    unfold P_slices_Clone_ghost_Entry_ghost_Entry
    refine ⟨fun hx => (by cases hx), fun _ => ?_⟩
    intro b5 hb5
    have hne : eb ≠ b5 := ne_of_known h3 hb5
    have hlen := rec_len enLen g.entries
    refine ⟨(g.entries.map enL).flatten, g.entries.length, ⟨rfl, hlen, ?_⟩, ?_, by omega, [], [], rfl, PH.upd_same _ _ _, rfl, by simp, Nat.le_refl _, ?_⟩
    · intro i hi
      simp only [add_mk, cell_mk, upd_at, hne, if_false, h3, Option.bind_some, Nat.zero_add]
      simp only [recArr, List.getElem?_toArray]
      rw [List.getElem?_append_left (by omega)]
    · intro v hv
      simp only [List.mem_flatten, List.mem_map] at hv
      obtain ⟨_, ⟨m, _, rfl⟩, hv⟩ := hv
      simp only [enL, List.mem_cons, List.not_mem_nil, or_false] at hv
      rcases hv with rfl | rfl | rfl | rfl | rfl | rfl | rfl | rfl | rfl | rfl | rfl | rfl | rfl <;> rfl
    · intro b cap' junk hb hc hj
      rw [upd_del hb5] at hb ⊢
      simp only [Nat.zero_add, xNn_some, add_mk, cell_mk, upd_at, del_at, if_true, if_false, Option.bind_some, List.getElem?_toArray, List.getElem?_cons_succ, List.getElem?_cons_zero, oI_some, oS_some, oM_some, oB_some, oP_some, oT_some, xIdx_some, Nat.zero_add, Nat.add_zero, Nat.mul_one] at hj ⊢
      exact .inr ⟨b, cap', junk, rfl, hb, rfl⟩

end Go.Gh
