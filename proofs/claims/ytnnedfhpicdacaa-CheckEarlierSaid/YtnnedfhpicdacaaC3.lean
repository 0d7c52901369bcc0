/-
  Calls that are copied; how many the model takes as they stand.
-/
import Derived.Test.YtnnedfhpicdacaaC2
import Derived.Test.YtnnedfhpicdacaaE2
set_option linter.unusedSimpArgs false
set_option linter.unusedVariables false
namespace Go.Ck
open Go Go.Sx Go.Md Go.Proofs Go.Proofs.Ytnnedfhpicdacaa

def ser : Ms → List Cl → Nat × Bool
  | _, [] => (0, true)
  | s, c :: l => if s.code c.event = 0 then ((ser (s.next c.event) l).1 + 1, (ser (s.next c.event) l).2) else (0, false)

theorem ser_cons (s : Ms) (c : Cl) (l : List Cl) : ser s (c :: l) = if s.code c.event = 0 then ((ser (s.next c.event) l).1 + 1, (ser (s.next c.event) l).2) else (0, false) := rfl

theorem meets_Serial {h : PH} {a : Option Addr} {n c : Nat} {l : List Cl} (x : ClsAt h a l) (hl : l.length = n) (hn : n ≤ 1000000) (t o m : Int) (ok : newOk t o m = true) (ho : o ≤ 8) (ht : t ≤ 8) :
    Meets Try.prog 31 #[.int .i64 t, .int .i64 o, .int .i64 m, .slice a n c] h fun v h' => v = .tuple #[.int .i64 (ser (Ms.new t o m) l).1, .bool (ser (Ms.new t o m) l).2] ∧ h' = h := by
  apply Meets.same
  apply P_check_Serial_of
  unfold P_check_Serial
  refine (meets_New t o m ok).mono ?_
  rintro _ h1 ⟨w, rfl, f⟩
  have own := MOwn.of_fresh (PH.le_refl h) f
  clear f
  obtain ⟨p, rfl⟩ := own.ptr
  have k0 := new_ok t o m ht ho
  generalize Ms.new t o m = s0 at own k0 ⊢
  simp only [oTup_mk, oIx_some, oP_some, oI_some, List.getElem?_toArray, List.getElem?_cons_zero, List.getElem?_cons_succ]
  refine ⟨rfl, fun hx => (by cases hx), fun _ => ?_⟩
  refine xBlk_split (fun h' => ser s0 l = (n, true) ∧ h.le h') ?_ fun K hK => ?_
  · rintro h' ⟨e, le⟩
    rw [e]
    exact ⟨rfl, le⟩
  refine xLoop1 (fun (i : Int) h' => 0 ≤ i ∧ i ≤ n ∧ ∃ s : Ms, s.Ok ∧ MOwn h h' (.pointer (some p)) s ∧ ser s0 l = (i.toNat + (ser s (l.drop i.toNat)).1, (ser s (l.drop i.toNat)).2)) (fun (i : Int) _ => ((n : Int) - i).toNat) ?_ ⟨by omega, by omega, s0, k0, own, by simp⟩
  rintro J i h2 ⟨i0, i1, s, ks, own, hs⟩ hJ
  refine ⟨fun hx => ?_, fun hx => ?_⟩
  · have hx := of_decide_eq_true hx
    have hw : IntKind.wrap .i64 (i + 1) = i + 1 := wrap64_id (by omega) (by omega)
    have hmu : ((n : Int) - (i + 1)).toNat < ((n : Int) - i).toNat := by omega
    have j0 : 0 ≤ i + 1 := by omega
    have j1 : i + 1 ≤ n := by omega
    have j2 : (i + 1).toNat = i.toNat + 1 := by omega
    have hi : i.toNat < l.length := by omega
    have hd : l.drop i.toNat = l[i.toNat] :: l.drop (i.toNat + 1) := List.drop_eq_getElem_cons hi
    rw [hd] at hs
    obtain ⟨b, rfl, c0, c1, c2, c3, c4, c5, c6⟩ := cls_at (x.le own.base) (List.getElem?_eq_getElem hi)
    generalize l[i.toNat] = e at c0 c1 c2 c3 c4 c5 c6 hs
    have step : ∀ h' s', s'.Ok → MOwn h h' (.pointer (some p)) s' → ser s0 l = (i.toNat + 1 + (ser s' (l.drop (i.toNat + 1))).1, (ser s' (l.drop (i.toNat + 1))).2) → J (i + 1) h' := fun h' s' k' o' e' => hJ _ _ ⟨j0, j1, s', k', o', by rw [j2]; exact e'⟩ hmu
    clear hJ hmu j0 j1 hK j2
    refine xBlk_split (fun h' => ∃ s' : Ms, s'.Ok ∧ MOwn h h' (.pointer (some p)) s' ∧ ser s0 l = (i.toNat + 1 + (ser s' (l.drop (i.toNat + 1))).1, (ser s' (l.drop (i.toNat + 1))).2)) (fun h' ⟨s', k', o', e'⟩ => by rw [hw]; exact step h' s' k' o' e') fun K hK => ?_
    clear step
    refine ⟨b, rfl, i0, hx, ?_⟩
    simp only [c0, c1, c2, c3, c4, c5, c6, oI_some]
    refine xBox rfl rfl rfl (by decide) (clL_one e) fun b6 h3 l3 n6 e3 => ?_
    have e3' : h3 b6 = some (.cells (clL e).toArray 61 (0, 0)) := e3
    have o3 := own.le l3
    simp only [xNn_some, add_mk, cell_mk, upd_at, del_at, if_true, if_false, Option.bind_some, List.getElem?_toArray, List.getElem?_cons_succ, List.getElem?_cons_zero, oI_some, oS_some, oM_some, oB_some, oP_some, oT_some, xIdx_some, Nat.zero_add, Nat.add_zero, Nat.mul_one, e3', clL]
    refine (o3.apply e.event ks.few).mono ?_
    rintro _ h5 ⟨rfl, o5⟩
    simp only [oI_some]
    rw [ser_cons] at hs
    refine ⟨fun hc => ?_, fun hc => ?_⟩
    · have hc : s.code e.event ≠ 0 := by simpa using hc
      rw [if_neg hc] at hs
      rw [hs]
      have : ((i.toNat : Nat) : Int) = i := by omega
      exact ⟨by simp [this], o5.base⟩
    · have hc : s.code e.event = 0 := by simpa using hc
      rw [if_pos hc] at hs
      exact hK _ ⟨_, next_ok ks e.event, o5, by rw [hs]; simp only [Prod.mk.injEq, and_true]; omega⟩
  · have hx := of_decide_eq_false hx
    have : l.drop i.toNat = [] := List.drop_eq_nil_of_le (by omega)
    rw [this] at hs
    refine hK _ ⟨?_, own.base⟩
    rw [hs]
    simp only [ser, Prod.mk.injEq, and_true]
    omega

theorem meets_Serial_no {h : PH} {a : Option Addr} {n c : Nat} (t o m : Int) (no : newOk t o m = false) :
    Meets Try.prog 31 #[.int .i64 t, .int .i64 o, .int .i64 m, .slice a n c] h fun v h' => v = .tuple #[.int .i64 0, .bool false] ∧ h' = h := by
  apply P_check_Serial_of
  unfold P_check_Serial
  refine (meets_New_no t o m no).look ?_
  simp only [oTup_mk, oIx_some, oP_some, oI_some, List.getElem?_toArray, List.getElem?_cons_zero, List.getElem?_cons_succ]
  exact ⟨rfl, fun _ => ⟨by trivial, by trivial⟩, fun hx => (by cases hx)⟩

theorem meets_theirs23 {h : PH} {a : Option Addr} {n c : Nat} {l : List Cl} (x : ClsAt h a l) (hl : l.length = n) (hn : n ≤ 1000000) :
    Meets Try.prog 26 #[.slice a n c] h fun v h' => ∃ p c' S, v = .slice p n c' ∧ RowIn clL 7 61 h' p n c' l S ∧ h.le h' ∧ ∀ b ∈ S, h b = none := by
  apply P_law23_theirs_of
  unfold P_law23_theirs
  refine xBlk_split3 (fun p m c' h' => m = n ∧ ∃ S, RowIn clL 7 61 h' p m c' l S ∧ h.le h' ∧ ∀ b ∈ S, h b = none) ?_ fun K hK => ?_
  · rintro p m c' h' ⟨rfl, S, r, le, nS⟩
    exact ⟨p, c', S, rfl, r, le, nS⟩
  refine xLoop4 (fun p m c' (i : Int) h' => 0 ≤ i ∧ i ≤ n ∧ ∃ S, RowIn clL 7 61 h' p m c' (l.take i.toNat) S ∧ h.le h' ∧ ∀ b ∈ S, h b = none) (fun _ _ _ (i : Int) _ => ((n : Int) - i).toNat) ?_ ⟨by omega, by omega, [], by simpa using RowIn.nil _ _, PH.le_refl h, by simp⟩
  rintro J p m c' i h2 ⟨i0, i1, S, r, le, nS⟩ hJ
  refine ⟨fun hx => ?_, fun hx => ?_⟩
  · have hx := of_decide_eq_true hx
    have hw : IntKind.wrap .i64 (i + 1) = i + 1 := wrap64_id (by omega) (by omega)
    have hmu : ((n : Int) - (i + 1)).toNat < ((n : Int) - i).toNat := by omega
    have j0 : 0 ≤ i + 1 := by omega
    have j1 : i + 1 ≤ n := by omega
    have j2 : (i + 1).toNat = i.toNat + 1 := by omega
    have hi : i.toNat < l.length := by omega
    have ht : l.take (i.toNat + 1) = l.take i.toNat ++ [l[i.toNat]] := List.take_succ_eq_append_getElem hi
    have len : (l.take i.toNat).length ≤ 1000000 := by rw [List.length_take]; omega
    obtain ⟨b, rfl, c0, c1, c2, c3, c4, c5, c6⟩ := cls_at (x.le le) (List.getElem?_eq_getElem hi)
    have step : ∀ p' m' c' h' S', RowIn clL 7 61 h' p' m' c' (l.take (i.toNat + 1)) S' → h.le h' → (∀ b ∈ S', h b = none) → J p' m' c' (i + 1) h' := fun p' m' c' h' S' r' l' n' => hJ _ _ _ _ _ ⟨j0, j1, S', by rw [j2]; exact r', l', n'⟩ hmu
    rw [ht] at step
    generalize l[i.toNat] = e at c0 c1 c2 c3 c4 c5 c6 step
    clear hJ hmu j0 j1 hK j2
    refine xBlk_split3 (fun p' m' c' h' => ∃ S', RowIn clL 7 61 h' p' m' c' (l.take i.toNat ++ [e]) S' ∧ h.le h' ∧ ∀ b ∈ S', h b = none) (fun p' m' c' h' ⟨S', r', l', n'⟩ => by rw [hw]; exact step p' m' c' h' S' r' l' n') fun K hK => ?_
    clear step
    refine ⟨b, rfl, i0, hx, ?_⟩
    simp only [c0, c1, c2, c3, c4, c5, c6, oI_some]
    refine xBox rfl rfl rfl (by decide) (clL_one e) fun b5 h3 l3 n5 e5 => ?_
    have e5' : h3 b5 = some (.cells (clL e).toArray 65 (0, 0)) := e5
    simp only [xNn_some, add_mk, cell_mk, upd_at, del_at, if_true, if_false, Option.bind_some, List.getElem?_toArray, List.getElem?_cons_succ, List.getElem?_cons_zero, oI_some, oS_some, oM_some, oB_some, oP_some, oT_some, xIdx_some, Nat.zero_add, Nat.add_zero, Nat.mul_one, e5', clL]
    refine xBox rfl rfl rfl (by decide) (by simp [oneCell]) fun b6 h4 l4 n6 e6 => ?_
    have f5 := l4 _ _ e5
    have f5' : h4 b5 = some (.cells (clL e).toArray 65 (0, 0)) := f5
    simp only [xNn_some, add_mk, cell_mk, upd_at, del_at, if_true, if_false, Option.bind_some, List.getElem?_toArray, List.getElem?_cons_succ, List.getElem?_cons_zero, oI_some, oS_some, oM_some, oB_some, oP_some, oT_some, xIdx_some, Nat.zero_add, Nat.add_zero, Nat.mul_one, e6, f5', clL]
    refine xNew_intro fun b32 h5 l5 n32 e32 => ?_
    have le5 := PH.le_trans le (PH.le_trans l3 (PH.le_trans l4 l5))
    have r5 := r.le (PH.le_trans l3 (PH.le_trans l4 l5))
    refine r5.app clL_len (clL_one e) e32 (by omega) ?_
    intro p' m' c'' h6 S' r6 x6 n6
    refine hK _ _ _ _ ⟨S', r6, fun y O hy => x6 y O (le5 _ _ hy) fun hm => (by rw [nS y hm] at hy; cases hy), fun b hb => ?_⟩
    rcases n6 b hb with h' | h'
    · exact nS b h'
    · exact none_of le5 h'
  · have hx := of_decide_eq_false hx
    have e : l.take i.toNat = l := List.take_of_length_le (by omega)
    rw [e] at r
    exact hK _ _ _ _ ⟨r.1.trans hl, S, r, le, nS⟩

end Go.Ck
