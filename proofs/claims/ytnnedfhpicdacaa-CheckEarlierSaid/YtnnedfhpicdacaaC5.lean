/-
  Two models with nobody who waits, or left: if they are told the same, they are.
-/
import Derived.Test.YtnnedfhpicdacaaM10
set_option linter.unusedSimpArgs false
set_option linter.unusedVariables false
namespace Go.Md
open Go Go.Sx Go.Proofs Go.Proofs.Ytnnedfhpicdacaa

def mo0 : Mo := ⟨-1, 0, 0⟩
theorem take_succ_getD {α : Type} {l : List α} {n : Nat} (d : α) (h : n < l.length) : l.take (n + 1) = l.take n ++ [l.getD n d] := by
  rw [List.take_succ_eq_append_getElem h, List.getD_eq_getElem?_getD, List.getElem?_eq_getElem h]; rfl
theorem meets_eq_mons {h : PH} {a b : Nat} {l l' : List Mo} {j j' : List Value} {c c' : Nat} (ha : h a = some (.cells (moArr l j) 117 (0, 0))) (hb : h b = some (.cells (moArr l' j') 117 (0, 0))) (h8 : l.length ≤ 8) :
    Meets Try.prog 53 #[.slice (some ⟨a, 0, none⟩) l.length c, .slice (some ⟨b, 0, none⟩) l'.length c'] h fun v h' => (∃ r, v = .bool r ∧ (r = true → l = l')) ∧ h' = h := by
  apply P_slices_Equal_model_monitor_model_monitor_of
  unfold P_slices_Equal_model_monitor_model_monitor
  refine ⟨fun hx => ⟨⟨false, rfl, fun h => (by cases h)⟩, rfl⟩, fun hx => ?_⟩
  have hlen : l.length = l'.length := by simp at hx; omega
  refine xLoop1 (fun (x : Int) h' => h' = h ∧ 0 ≤ x ∧ x ≤ l.length ∧ l.take x.toNat = l'.take x.toNat) (fun (x : Int) _ => ((l.length : Int) - x).toNat) ?_ ⟨rfl, by omega, by omega, rfl⟩
  rintro J x _ ⟨rfl, x0, x1, pre⟩ hJ
  refine ⟨fun hc => ?_, fun hc => ?_⟩
  · have hc := of_decide_eq_true hc
    have hn : x.toNat < l.length := by omega
    have hn' : x.toNat < l'.length := by omega
    have hc' : x < (l'.length : Int) := by omega
    have hw : IntKind.wrap .i64 (x + 1) = x + 1 := wrap64_id (by omega) (by omega)
    have hmu : ((l.length : Int) - (x + 1)).toNat < ((l.length : Int) - x).toNat := by omega
    have x0' : 0 ≤ x + 1 := by omega
    have x1' : x + 1 ≤ l.length := by omega
    have x2' : (x + 1).toNat = x.toNat + 1 := by omega
    refine xDraw_self ?_
    simp only [xNn_some, add_mk, cell_mk, upd_at, del_at, if_true, if_false, Option.bind_some, List.getElem?_toArray, List.getElem?_cons_succ, List.getElem?_cons_zero, oI_some, oS_some, oM_some, oB_some, oP_some, oT_some, xIdx_some, Nat.zero_add, Nat.add_zero, Nat.mul_one, ha, hb, moArr_0 hn, moArr_1 hn, moArr_2 hn, moArr_0 hn', moArr_1 hn', moArr_2 hn']
    have t1 := take_succ_getD mo0 hn
    have t2 := take_succ_getD mo0 hn'
    have e1 : l.getD x.toNat ⟨-1, 0, 0⟩ = l.getD x.toNat mo0 := rfl
    have e2 : l'.getD x.toNat ⟨-1, 0, 0⟩ = l'.getD x.toNat mo0 := rfl
    rw [e1, e2]
    generalize l.getD x.toNat mo0 = m at t1 ⊢
    generalize l'.getD x.toNat mo0 = m' at t2 ⊢
    refine ⟨x0, hc, x0, hc', ([m.owner, m.count, m.hash] == [m'.owner, m'.count, m'.hash]), ?_, fun hx => ?_, fun hx => ?_⟩
    · exact eqLaw_ints (P := Try.prog) (t := 117) [.i64, .i64, .i64] [m.owner, m.count, m.hash] [m'.owner, m'.count, m'.hash] (by kernel_rfl) rfl rfl
    · exact ⟨⟨false, rfl, fun h => (by cases h)⟩, by trivial⟩
    · rw [hw]
      have hm : m = m' := by
        have : ([m.owner, m.count, m.hash] == [m'.owner, m'.count, m'.hash]) = true := by simpa using hx
        have := eq_of_beq this
        simp only [List.cons.injEq, and_true] at this
        cases m; cases m'; simp_all
      refine hJ _ _ ⟨rfl, x0', x1', ?_⟩ hmu
      rw [x2', t1, t2, pre, hm]
  · have hc := of_decide_eq_false hc
    refine ⟨⟨true, rfl, fun _ => ?_⟩, rfl⟩
    have e1 : l.take x.toNat = l := List.take_of_length_le (by omega)
    have e2 : l'.take x.toNat = l' := List.take_of_length_le (by omega)
    rw [e1, e2] at pre; exact pre
theorem meets_eq_flags {h : PH} {a b : Nat} {l l' : List Bool} {j j' : List Value} {c c' : Nat} (ha : h a = some (.cells (flArr l j) 4 (0, 0))) (hb : h b = some (.cells (flArr l' j') 4 (0, 0))) (h8 : l.length ≤ 8) :
    Meets Try.prog 54 #[.slice (some ⟨a, 0, none⟩) l.length c, .slice (some ⟨b, 0, none⟩) l'.length c'] h fun v h' => (∃ r, v = .bool r ∧ (r = true → l = l')) ∧ h' = h := by
  apply P_slices_Equal_bool_bool_of
  unfold P_slices_Equal_bool_bool
  refine ⟨fun hx => ⟨⟨false, rfl, fun h => (by cases h)⟩, rfl⟩, fun hx => ?_⟩
  have hlen : l.length = l'.length := by simp at hx; omega
  refine xLoop1 (fun (x : Int) h' => h' = h ∧ 0 ≤ x ∧ x ≤ l.length ∧ l.take x.toNat = l'.take x.toNat) (fun (x : Int) _ => ((l.length : Int) - x).toNat) ?_ ⟨rfl, by omega, by omega, rfl⟩
  rintro J x _ ⟨rfl, x0, x1, pre⟩ hJ
  refine ⟨fun hc => ?_, fun hc => ?_⟩
  · have hc := of_decide_eq_true hc
    have hn : x.toNat < l.length := by omega
    have hn' : x.toNat < l'.length := by omega
    have hc' : x < (l'.length : Int) := by omega
    have hw : IntKind.wrap .i64 (x + 1) = x + 1 := wrap64_id (by omega) (by omega)
    have hmu : ((l.length : Int) - (x + 1)).toNat < ((l.length : Int) - x).toNat := by omega
    have x0' : 0 ≤ x + 1 := by omega
    have x1' : x + 1 ≤ l.length := by omega
    have x2' : (x + 1).toNat = x.toNat + 1 := by omega
    refine xDraw_self ?_
    simp only [xNn_some, add_mk, cell_mk, upd_at, del_at, if_true, if_false, Option.bind_some, List.getElem?_toArray, List.getElem?_cons_succ, List.getElem?_cons_zero, oI_some, oS_some, oM_some, oB_some, oP_some, oT_some, xIdx_some, Nat.zero_add, Nat.add_zero, Nat.mul_one, ha, hb, flArr_get hn, flArr_get hn']
    have t1 := take_succ_getD false hn
    have t2 := take_succ_getD false hn'
    generalize l.getD x.toNat false = m at t1 ⊢
    generalize l'.getD x.toNat false = m' at t2 ⊢
    refine ⟨x0, hc, x0, hc', fun hx => ?_, fun hx => ?_⟩
    · exact ⟨⟨false, rfl, fun h => (by cases h)⟩, by trivial⟩
    · rw [hw]
      have hm : m = m' := by revert hx; cases m <;> cases m' <;> simp
      refine hJ _ _ ⟨rfl, x0', x1', ?_⟩ hmu
      rw [x2', t1, t2, pre, hm]
  · have hc := of_decide_eq_false hc
    refine ⟨⟨true, rfl, fun _ => ?_⟩, rfl⟩
    have e1 : l.take x.toNat = l := List.take_of_length_le (by omega)
    have e2 : l'.take x.toNat = l' := List.take_of_length_le (by omega)
    rw [e1, e2] at pre; exact pre

/-- Nobody waits, or left. -/
structure Ms.Flat (s : Ms) : Prop where
  w : s.waits = []
  l : s.left = []
theorem meets_Same_flat {h : PH} {L L' : ML} {s s' : Ms} (r : MRep h L s) (r' : MRep h L' s') (k : s.Flat) (k' : s'.Flat) : Meets Try.prog 16 #[mp L, mp L'] h fun v h' => (∃ b, v = .bool b ∧ (b = true → s = s')) ∧ h' = h := by
  have cw := r.cw
  have cw' := r'.cw
  have cl := r.cl
  have cl' := r'.cl
  rw [k.w] at cw
  rw [k'.w] at cw'
  rw [k.l] at cl
  rw [k'.l] at cl'
  have o1 : Pl.Once ([] : Pl Int) := by simp [Pl.Once]
  have o2 : Pl.Once ([] : Pl (Int × Int)) := by simp [Pl.Once]
  obtain ⟨c1, c2, cm⟩ := r.cm
  obtain ⟨c3, c4, cm'⟩ := r'.cm
  obtain ⟨j1, co⟩ := r.co
  obtain ⟨j2, co'⟩ := r'.co
  obtain ⟨j3, cf⟩ := r.cf
  obtain ⟨j4, cf'⟩ := r'.cf
  apply P_model_Model_Same_of
  unfold P_model_Model_Same
  refine (meets_ok r).look ?_
  simp only [oB_some]
  refine xSc_or false (fun _ J hJ => ?_) ⟨fun hx => (by cases hx), fun _ => ?_⟩
  · refine (meets_ok r').look ?_
    simp only [oB_some]
    exact hJ
  refine xDraw_self ?_
  simp only [xNn_some, add_mk, cell_mk, upd_at, del_at, if_true, if_false, Option.bind_some, List.getElem?_toArray, List.getElem?_cons_succ, List.getElem?_cons_zero, oI_some, oS_some, oM_some, oB_some, oP_some, oT_some, xIdx_some, Nat.zero_add, Nat.add_zero, Nat.mul_one, cm, cm']
  refine ⟨fun hm => ?_, fun hm => ?_⟩
  · have hm := beq_iff_eq.1 hm
    refine (meets_eq_mons co co' r.nm).mono ?_
    rintro _ _ ⟨⟨x, rfl, hx⟩, rfl⟩
    simp only [oB_some]
    refine ⟨PH.le_refl _, fun hb => ?_, fun hb => ?_⟩
    · refine (meets_eq_flags cf cf' r.nf).mono ?_
      rintro _ _ ⟨⟨y, rfl, hy⟩, rfl⟩
      simp only [oB_some]
      refine ⟨PH.le_refl _, fun hb2 => ?_, fun hb2 => ?_⟩
      · refine (meets_equal_waits cw cw' o1).look ?_
        simp only [oB_some]
        refine ⟨PH.le_refl _, ?_⟩
        refine ⟨fun _ => ?_, fun hb3 => (by cases hb3)⟩
        refine (meets_equal_left cl cl' o2).look ?_
        simp only [oB_some]
        refine ⟨PH.le_refl _, ⟨true, rfl, fun _ => ?_⟩, by trivial⟩
        obtain ⟨m1, m2, m3, m4, m5⟩ := s
        obtain ⟨n1, n2, n3, n4, n5⟩ := s'
        have a1 := hx hb
        have a2 := hy hb2
        have a3 := k.w; have a4 := k'.w; have a5 := k.l; have a6 := k'.l
        dsimp only at hm a1 a2 a3 a4 a5 a6
        subst hm a1 a2 a3 a4 a5 a6
        rfl
      · subst hb2
        exact xSc_and false (fun h => (by cases h)) ⟨⟨false, rfl, fun h => (by cases h)⟩, rfl⟩
    · subst hb
      refine xSc_and false (fun h => (by cases h)) ?_
      exact xSc_and false (fun h => (by cases h)) ⟨⟨false, rfl, fun h => (by cases h)⟩, rfl⟩
  · rw [hm]
    refine xSc_and false (fun h => (by cases h)) ?_
    refine xSc_and false (fun h => (by cases h)) ?_
    exact xSc_and false (fun h => (by cases h)) ⟨⟨false, rfl, fun h => (by cases h)⟩, rfl⟩

end Go.Md
