/-
  Of each call, those that were over ahead of it.
-/
import Derived.Test.YtnnedfhpicdacaaC3
import Derived.Test.YtnnedfhpicdacaaC1
set_option linter.unusedSimpArgs false
set_option linter.unusedVariables false
namespace Go.Ck
open Go Go.Sx Go.Md Go.Proofs Go.Proofs.Ytnnedfhpicdacaa

def ovrN (l : List Cl) (k : Nat) : Nat → Nat
  | 0 => 0
  | m + 1 => if (cl l m).to < (cl l k).fr then ovrN l k m ||| 2 ^ m else ovrN l k m
def ovr (l : List Cl) (k : Nat) : Nat := ovrN l k l.length
theorem ovrN_bit (l : List Cl) (k : Nat) : ∀ m i, (ovrN l k m).testBit i = (decide (i < m) && decide ((cl l i).to < (cl l k).fr)) := by
  intro m
  induction m with
  | zero => intro i; simp [ovrN]
  | succ m ih =>
    intro i
    unfold ovrN
    split
    · rename_i h
      rw [testBit_or_pow, ih]
      by_cases e : m = i
      · subst e; simp [h]
      · have : decide (i < m + 1) = decide (i < m) := by
          rw [decide_eq_decide]; omega
        rw [this]; simp [e]
    · rename_i h
      rw [ih]
      by_cases e : m = i
      · subst e; simp [h]
      · have : decide (i < m + 1) = decide (i < m) := by
          rw [decide_eq_decide]; omega
        rw [this]
theorem ovr_bit (l : List Cl) (k i : Nat) : (ovr l k).testBit i = (decide (i < l.length) && decide ((cl l i).to < (cl l k).fr)) := ovrN_bit l k _ i
theorem ovrN_lt (l : List Cl) (k m : Nat) : ovrN l k m < 2 ^ m := by
  induction m with
  | zero => simp [ovrN]
  | succ m ih =>
    have h2 : 2 ^ m < 2 ^ (m + 1) := Nat.pow_lt_pow_right (by decide) (by omega)
    unfold ovrN
    split
    · exact Nat.or_lt_two_pow (by omega) h2
    · omega
theorem ovr_lt (l : List Cl) (k : Nat) (h : l.length ≤ 63) : ovr l k < 2 ^ 64 := Nat.lt_of_lt_of_le (ovrN_lt l k _) (Nat.pow_le_pow_right (by decide) (by omega))
theorem ovrN_lt64 (l : List Cl) (k m : Nat) (h : m ≤ 63) : ovrN l k m < 2 ^ 64 := Nat.lt_of_lt_of_le (ovrN_lt l k _) (Nat.pow_le_pow_right (by decide) (by omega))
/-- Whether a call may be the next one, as the code asks. -/
theorem free_code (l : List Cl) (done k : Nat) (hn : l.length ≤ 63) (hd : done < 2 ^ 64) (hk : k < 64) :
    (done.testBit k || (IntKind.wrap .u64 (BitVec.ofInt (IntKind.bits .u64) ((ovr l k : Nat) : Int) &&& ~~~(BitVec.ofInt (IntKind.bits .u64) (done : Int))).toNat != 0)) = !freeK l done k := by
  have h1 := andNot_bits (ovr l k) done (ovr_lt l k hn) hd
  generalize (IntKind.wrap .u64 (BitVec.ofInt (IntKind.bits .u64) ((ovr l k : Nat) : Int) &&& ~~~(BitVec.ofInt (IntKind.bits .u64) (done : Int))).toNat != 0) = b at h1
  cases hb : done.testBit k with
  | true => simp [freeK, hb]
  | false =>
    rw [Bool.false_or]
    cases hf : freeK l done k with
    | true =>
      obtain ⟨_, h2⟩ := free_spec hf
      cases b with
      | false => rfl
      | true =>
        obtain ⟨i, _, ho, hd'⟩ := h1.1 rfl
        rw [ovr_bit] at ho
        simp only [Bool.and_eq_true, decide_eq_true_eq] at ho
        rw [h2 i ho.1 ho.2] at hd'
        cases hd'
    | false =>
      cases b with
      | true => rfl
      | false =>
        have : freeK l done k = true := by
          refine free_mk hb fun i hi hlt => ?_
          cases hx : done.testBit i with
          | true => rfl
          | false =>
            have := h1.2 ⟨i, by omega, by rw [ovr_bit]; simp [hi, hlt], hx⟩
            cases this
        rw [hf] at this; cases this

def uL (x : Nat) : List Value := [.int .u64 x]
theorem uL_len (x : Nat) : (uL x).length = 1 := rfl

theorem meets_ahead {h : PH} {a : Option Addr} {n c : Nat} {l : List Cl} (x : ClsAt h a l) (hl : l.length = n) (hn : n ≤ 60) :
    Meets Try.prog 88 #[.slice a n c] h fun v h' => ∃ p c' S, v = .slice p n c' ∧ RowIn uL 1 167 h' p n c' ((List.range n).map (ovr l)) S ∧ h.le h' ∧ ∀ b ∈ S, h b = none := by
  apply P_check_ahead_of
  unfold P_check_ahead
  refine xBlk_split3 (fun p m c' h' => m = n ∧ ∃ S, RowIn uL 1 167 h' p m c' ((List.range n).map (ovr l)) S ∧ h.le h' ∧ ∀ b ∈ S, h b = none) ?_ fun K hK => ?_
  · rintro p m c' h' ⟨rfl, S, r, le, nS⟩
    exact ⟨p, c', S, rfl, r, le, nS⟩
  refine xLoop4 (fun p m c' (i : Int) h' => 0 ≤ i ∧ i ≤ n ∧ ∃ S, RowIn uL 1 167 h' p m c' ((List.range i.toNat).map (ovr l)) S ∧ h.le h' ∧ ∀ b ∈ S, h b = none) (fun _ _ _ (i : Int) _ => ((n : Int) - i).toNat) ?_ ⟨by omega, by omega, [], by simpa using RowIn.nil _ _, PH.le_refl h, by simp⟩
  rintro J p m c' i h2 ⟨i0, i1, S, r, le, nS⟩ hJ
  refine ⟨fun hx => ?_, fun hx => ?_⟩
  · have hx := of_decide_eq_true hx
    have hw : IntKind.wrap .i64 (i + 1) = i + 1 := wrap64_id (by omega) (by omega)
    have hmu : ((n : Int) - (i + 1)).toNat < ((n : Int) - i).toNat := by omega
    have j0 : 0 ≤ i + 1 := by omega
    have j1 : i + 1 ≤ n := by omega
    have j2 : (i + 1).toNat = i.toNat + 1 := by omega
    have hi : i.toNat < l.length := by omega
    have len : ((List.range i.toNat).map (ovr l)).length ≤ 1000 := by simp; omega
    have step : ∀ p' m' c' h' S', RowIn uL 1 167 h' p' m' c' ((List.range i.toNat).map (ovr l) ++ [ovr l i.toNat]) S' → h.le h' → (∀ b ∈ S', h b = none) → J p' m' c' (i + 1) h' := fun p' m' c' h' S' r' l' n' => hJ _ _ _ _ _ ⟨j0, j1, S', by rw [j2, List.range_succ, List.map_append]; exact r', l', n'⟩ hmu
    obtain ⟨b, rfl, c0, c1, c2, c3, c4, c5, c6⟩ := cls_at (x.le le) (List.getElem?_eq_getElem hi)
    have hcl : cl l i.toNat = l[i.toNat] := by simp [cl, List.getD_eq_getElem?_getD, hi]
    rw [← hcl] at c0 c1 c2 c3 c4 c5 c6
    clear hJ hmu j0 j1 hK j2
    refine xBlk_split3 (fun p' m' c' h' => ∃ S', RowIn uL 1 167 h' p' m' c' ((List.range i.toNat).map (ovr l) ++ [ovr l i.toNat]) S' ∧ h.le h' ∧ ∀ b ∈ S', h b = none) (fun p' m' c' h' ⟨S', r', l', n'⟩ => by rw [hw]; exact step p' m' c' h' S' r' l' n') fun K hK => ?_
    clear step
    refine ⟨b, rfl, i0, hx, ?_⟩
    simp only [c0, c1, c2, c3, c4, c5, c6, oI_some]
    refine xBox rfl rfl rfl (by decide) (clL_one (cl l i.toNat)) fun b5 h3 l3 n5 e5 => ?_
    have e5' : h3 b5 = some (.cells (clL (cl l i.toNat)).toArray 61 (0, 0)) := e5
    have le3 := PH.le_trans le l3
    have r3 := r.le l3
    clear e5 c0 c1 c2 c3 c4 c5 c6 l3 n5 r le
    refine xBlk_split1 (fun (u : Int) h' => u = ((ovr l i.toNat : Nat) : Int) ∧ h3.le h') ?_ fun K2 hK2 => ?_
    · rintro u h4 ⟨rfl, l4⟩
      refine xNew_intro fun b34 h5 l5 n34 e34 => ?_
      have r5 := (r3.le l4).le l5
      have le5 := PH.le_trans le3 (PH.le_trans l4 l5)
      refine r5.app (x := ovr l i.toNat) uL_len (by simp [uL, oneCell]) e34 (by omega) ?_
      intro p' m' c'' h6 S' r6 x6 n6
      refine hK _ _ _ _ ⟨S', r6, fun y O hy => x6 y O (le5 _ _ hy) fun hm => (by rw [nS y hm] at hy; cases hy), fun b hb => ?_⟩
      rcases n6 b hb with h' | h'
      · exact nS b h'
      · exact none_of le5 h'
    refine xLoop2 (fun (u j : Int) h' => 0 ≤ j ∧ j ≤ n ∧ u = ((ovrN l i.toNat j.toNat : Nat) : Int) ∧ h3.le h') (fun _ (j : Int) _ => ((n : Int) - j).toNat) ?_ ⟨by omega, by omega, by simp [ovrN], PH.le_refl _⟩
    rintro J2 u j h4 ⟨q0, q1, rfl, l4⟩ hJ2
    refine ⟨fun hy => ?_, fun hy => ?_⟩
    · have hy := of_decide_eq_true hy
      have hw2 : IntKind.wrap .i64 (j + 1) = j + 1 := wrap64_id (by omega) (by omega)
      have hmu : ((n : Int) - (j + 1)).toNat < ((n : Int) - j).toNat := by omega
      have j2 : (j + 1).toNat = j.toNat + 1 := by omega
      have hj : j.toNat < l.length := by omega
      have q2 : 0 ≤ j + 1 := by omega
      have q3 : j + 1 ≤ n := by omega
      have step : ∀ h', h3.le h' → J2 ((ovrN l i.toNat (j.toNat + 1) : Nat) : Int) (j + 1) h' := fun h' l' => hJ2 _ _ _ ⟨q2, q3, by rw [j2], l'⟩ hmu
      obtain ⟨b', hb', c0, c1, c2, c3, c4, c5, c6⟩ := cls_at (x.le (PH.le_trans le3 l4)) (List.getElem?_eq_getElem hj)
      injection hb' with hb'
      subst hb'
      have hcl : cl l j.toNat = l[j.toNat] := by simp [cl, List.getD_eq_getElem?_getD, hj]
      rw [← hcl] at c0 c1 c2 c3 c4 c5 c6
      clear hJ2 hmu q2 q3 hK2
      refine xBlk_split1 (fun (u : Int) h' => u = ((ovrN l i.toNat (j.toNat + 1) : Nat) : Int) ∧ h3.le h') (fun u h' ⟨e, l'⟩ => by subst e; rw [hw2]; exact step h' l') fun K3 hK3 => ?_
      refine ⟨b, rfl, q0, hy, ?_⟩
      simp only [c0, c1, c2, c3, c4, c5, c6, oI_some]
      refine xBox rfl rfl rfl (by decide) (clL_one (cl l j.toNat)) fun b8 h5 l5 n8 e8 => ?_
      have e8' : h5 b8 = some (.cells (clL (cl l j.toNat)).toArray 61 (0, 0)) := e8
      have f5 := l5 _ _ (l4 _ _ e5')
      have le5 := PH.le_trans l4 l5
      simp only [xNn_some, add_mk, cell_mk, upd_at, del_at, if_true, if_false, Option.bind_some, List.getElem?_toArray, List.getElem?_cons_succ, List.getElem?_cons_zero, oI_some, oS_some, oM_some, oB_some, oP_some, oT_some, xIdx_some, Nat.zero_add, Nat.add_zero, Nat.mul_one, e8', f5, clL]
      have hj64 : j.toNat < 64 := by omega
      have hjc : j = ((j.toNat : Nat) : Int) := by omega
      refine ⟨fun hc => ?_, fun hc => ?_⟩
      · have hc := of_decide_eq_true hc
        refine ⟨q0, ?_⟩
        refine hK3 _ _ ⟨?_, le5⟩
        have e1 : ovrN l i.toNat (j.toNat + 1) = ovrN l i.toNat j.toNat ||| 2 ^ j.toNat := by
          show (if _ then _ else _) = _
          rw [if_pos hc]
        have e2 := shl_one j.toNat hj64
        rw [← hjc] at e2
        rw [e2, or_bits _ _ (ovrN_lt64 _ _ _ (by omega)) (Nat.pow_lt_pow_right (by decide) hj64), e1]
      · have hc := of_decide_eq_false hc
        refine hK3 _ _ ⟨?_, le5⟩
        have e1 : ovrN l i.toNat (j.toNat + 1) = ovrN l i.toNat j.toNat := by
          show (if _ then _ else _) = _
          rw [if_neg hc]
        rw [e1]
    · have hy := of_decide_eq_false hy
      have : j.toNat = l.length := by omega
      refine hK2 _ _ ⟨?_, l4⟩
      rw [this]; rfl
  · have hx := of_decide_eq_false hx
    have e : i.toNat = n := by omega
    rw [e] at r
    exact hK _ _ _ _ ⟨r.1.trans (by simp), S, r, le, nS⟩

end Go.Ck
