/-
  The walk of CheckEarlier.
-/
import Derived.ChangeArms
import Derived.WideShapes
import Derived.Test.YtnnedfhpicdacaaRows
import Derived.Test.YtnnedfhpicdacaaJG2
import Derived.Test.YtnnedfhpicdacaaJG3
import Derived.Test.YtnnedfhpicdacaaJG4
import Derived.Test.YtnnedfhpicdacaaJG5
import Derived.Test.YtnnedfhpicdacaaJG8
import Derived.Test.YtnnedfhpicdacaaJG9

set_option linter.unusedSimpArgs false
set_option linter.unusedVariables false
namespace Go.Ck
open Go Go.Sx Go.Md Go.Proofs Go.Proofs.Ytnnedfhpicdacaa

theorem row_lit {h : PH} {b : Nat} {l : List Cl} {O : Array Value} (e : h b = some (.cells O 61 (0, 0))) (ho : O = recArr clL l []) : ClsAt h (some ⟨b, 0, none⟩) l := by
  subst ho
  exact RowIn.recs (n := l.length) (c := l.length) (S := [b]) clL_len ⟨rfl, .inr ⟨b, [], rfl, e, Nat.le_refl _, by simp, rfl⟩⟩
theorem ints_at {h : PH} {p : Option Addr} {n c : Nat} {l : List Int} {S : List Nat} (i : IntsIn h p n c l S) {k : Nat} (hk : k < l.length) : ∃ b, p = some b ∧ h.cell (b.add (k * 1)) = some (.int .i64 l[k]) := by
  obtain ⟨rfl, ⟨rfl, _⟩ | ⟨b, junk, rfl, hb, hc, hj, rfl⟩⟩ := i
  · simp at hk
  · refine ⟨_, rfl, ?_⟩
    rw [add_mk, cellAt hb, Nat.zero_add, Nat.mul_one, intArr_get hk]

def aA : Cl := ⟨⟨1, 0, 0, 0, 0⟩, 0, 9⟩
def aB : Cl := ⟨⟨1, 1, 0, 0, 0⟩, 1, 9⟩
def aX : Cl := ⟨⟨3, 0, 0, 0, 0⟩, 2, 9⟩

theorem meets_alive23 {h : PH} : Meets Try.prog 24 #[] h fun v h' => v = .bool true ∧ h' = h := by
  apply Meets.same
  apply P_law23_alive_of
  unfold P_law23_alive
  have k1 : (askO 2 1 1 [aA, aB]).isSome = false := by kernel_rfl
  have k2 : askE 2 1 1 [aA, aB] = 0 := by kernel_rfl
  have k3 : (askO 2 1 1 [aB, aA, aX]).getD [] = [1, 2, 0] := by kernel_rfl
  have k4 : askE 2 1 1 [aB, aA, aX] = 0 := by kernel_rfl
  refine xBox rfl rfl rfl (by decide) (clL_one aA) fun b1 h1 l1 n1 e1 => ?_
  refine xBox rfl rfl rfl (by decide) (clL_one aB) fun b2 h2 l2 n2 e2 => ?_
  refine xBox rfl rfl rfl (by decide) (clL_one aX) fun b3 h3 l3 n3 e3 => ?_
  have f1 := l3 _ _ (l2 _ _ e1)
  have f2 := l3 _ _ e2
  simp only [xNn_some, add_mk, cell_mk, upd_at, del_at, if_true, if_false, Option.bind_some, List.getElem?_toArray, List.getElem?_cons_succ, List.getElem?_cons_zero, oI_some, oS_some, oM_some, oB_some, oP_some, oT_some, xIdx_some, Nat.zero_add, Nat.add_zero, Nat.mul_one, f1, f2, e3]
  refine xNew_intro fun b17 h4 l4 n4 e4 => ?_
  refine (meets_Can (row_lit (l := [aA, aB]) e4 rfl) rfl (by decide) 2 1 1).look ?_
  rw [k1, k2]
  simp only [oTup_mk, oIx_some, oB_some, oI_some, List.getElem?_toArray, List.getElem?_cons_zero, List.getElem?_cons_succ]
  have g1 := l4 _ _ f1
  have g2 := l4 _ _ f2
  have g3 := l4 _ _ e3
  refine ⟨rfl, ?_⟩
  simp only [xNn_some, add_mk, cell_mk, upd_at, del_at, if_true, if_false, Option.bind_some, List.getElem?_toArray, List.getElem?_cons_succ, List.getElem?_cons_zero, oI_some, oS_some, oM_some, oB_some, oP_some, oT_some, xIdx_some, Nat.zero_add, Nat.add_zero, Nat.mul_one, g1, g2, g3]
  refine xNew_intro fun b25 h5 l5 n5 e5 => ?_
  refine (meets_Order (row_lit (l := [aB, aA, aX]) e5 rfl) rfl (by decide) 2 1 1).mono ?_
  rintro _ h6 ⟨l6, p, k, c', S, rfl, ints, nS⟩
  rw [k3] at ints
  rw [k4]
  have hk : k = 3 := ints.1
  subst hk
  simp only [oTup_mk, oIx_some, oS_some, oB_some, oI_some, List.getElem?_toArray, List.getElem?_cons_zero, List.getElem?_cons_succ]
  refine ⟨rfl, ?_⟩
  refine xSc_and true (fun _ J hJ => hJ) ?_
  refine xSc_and true (fun _ J hJ => hJ) ?_
  refine xSc_and true (fun _ J hJ => hJ) ?_
  refine xSc_and true (fun _ J hJ => ?_) ?_
  · obtain ⟨b, hb, hc⟩ := ints_at ints (k := 0) (by decide)
    refine ⟨b, hb, by decide, by decide, ?_⟩
    have hc' : h6.cell (b.add (Int.toNat 0 * 1)) = some (.int .i64 1) := hc
    simp only [hc', oI_some]
    exact hJ
  refine xSc_and true (fun _ J hJ => ?_) ?_
  · obtain ⟨b, hb, hc⟩ := ints_at ints (k := 1) (by decide)
    refine ⟨b, hb, by decide, by decide, ?_⟩
    have hc' : h6.cell (b.add (Int.toNat 1 * 1)) = some (.int .i64 2) := hc
    simp only [hc', oI_some]
    exact hJ
  refine xSc_and true (fun _ J hJ => ?_) ⟨by trivial, PH.le_trans l1 (PH.le_trans l2 (PH.le_trans l3 (PH.le_trans l4 (PH.le_trans l5 l6))))⟩
  · obtain ⟨b, hb, hc⟩ := ints_at ints (k := 2) (by decide)
    refine ⟨b, hb, by decide, by decide, ?_⟩
    have hc' : h6.cell (b.add (Int.toNat 2 * 1)) = some (.int .i64 0) := hc
    simp only [hc', oI_some]
    exact hJ

/-! ### Who was met -/
theorem findE_append (k : Value) : ∀ (l m : List MapEntry) (i : Nat), findE (l ++ m) k i = (findE l k i).or (findE m k (i + l.length)) := by
  intro l
  induction l with
  | nil => intro m i; simp [findE]
  | cons e l ih =>
    intro m i
    simp only [List.cons_append, findE]
    split
    · simp
    · rw [ih, List.length_cons]
      congr 2
      omega
def MetAt (h : PH) (b : Nat) (ks : List Nat) : Prop := ∃ es cl, h b = some (.map es cl) ∧ (∀ e ∈ es.toList, isKeyI .i64 (MapEntry.key e)) ∧ ∀ k : Nat, mapGet es (.int .i64 (k : Int)) = if k ∈ ks then some (.bool true) else none
theorem MetAt.le {h h' : PH} {b : Nat} {ks : List Nat} (x : MetAt h b ks) (le : h.le h') : MetAt h' b ks := by
  obtain ⟨es, cl, e, hk, hg⟩ := x; exact ⟨es, cl, le _ _ e, hk, hg⟩
theorem law_int : KeyLaw Try.prog 3 (isKeyI .i64) := keyLawInt Try.underlying3
theorem MetAt.look {h : PH} {b : Nat} {ks : List Nat} (x : MetAt h b ks) (k : Nat) {K : Option Value → Prop} (kk : K (if k ∈ ks then some (.bool true) else none)) : xLook Try.prog 3 h (some b) (.int .i64 (k : Int)) K := by
  obtain ⟨es, cl, e, hk, hg⟩ := x
  refine .inl ⟨b, es, cl, _, rfl, e, law_int, ⟨_, rfl⟩, hk, ?_⟩
  rw [hg]; exact kk
theorem MetAt.put {h : PH} {b : Nat} {ks : List Nat} (x : MetAt h b ks) {k : Nat} (nk : k ∉ ks) {K : PH → Prop} (kk : ∀ O, MetAt (h.upd b O) b (ks ++ [k]) → K (h.upd b O)) : xPut Try.prog 3 h (some b) (.int .i64 (k : Int)) (.bool true) K := by
  obtain ⟨es, cl, e, hk, hg⟩ := x
  refine ⟨b, es, cl, _, rfl, e, law_int, ⟨_, rfl⟩, hk, kk _ ?_⟩
  have hn := hg k
  rw [if_neg nk] at hn
  have hf : findE es.toList (.int .i64 (k : Int)) 0 = none := by
    unfold mapGet at hn
    cases hx : findE es.toList (.int .i64 (k : Int)) 0 with
    | none => rfl
    | some r => rw [hx] at hn; cases hn
  have hp : mapPut es cl (.int .i64 (k : Int)) (.bool true) = .map (es.push { key := .int .i64 (k : Int), val := .bool true, born := cl }) (cl + 1) := by unfold mapPut; rw [hf]
  rw [hp]
  refine ⟨_, _, PH.upd_same _ _ _, ?_, ?_⟩
  · intro en he
    rw [Array.toList_push, List.mem_append] at he
    rcases he with he | he
    · exact hk en he
    · simp at he; subst he; exact ⟨_, rfl⟩
  · intro q
    have := hg q
    unfold mapGet at this ⊢
    rw [Array.toList_push, findE_append]
    cases hx : findE es.toList (.int .i64 (q : Int)) 0 with
    | some r =>
      rw [hx] at this
      rw [Option.some_or]
      by_cases hm : q ∈ ks
      · rw [if_pos hm] at this; rw [if_pos (by simp [hm])]; exact this
      · rw [if_neg hm] at this; cases this
    | none =>
      rw [hx] at this
      have hm : q ∉ ks := fun hm => by rw [if_pos hm] at this; cases this
      rw [Option.none_or]
      simp only [findE, sameBits_int]
      by_cases e : q = k
      · subst e; simp
      · have : ((q : Int) == (k : Int)) = false := by simp; omega
        simp [this, hm, e]

theorem ser_all : ∀ (P : List Cl) (s : Ms), (∀ j, j < P.length → ((P.take j).foldl (fun s c => s.next c.event) s).code (cl P j).event = 0) → ser s P = (P.length, true) := by
  intro P
  induction P with
  | nil => intro s _; rfl
  | cons c P ih =>
    intro s h
    have h0 := h 0 (by simp)
    have : s.code c.event = 0 := h0
    rw [ser_cons, if_pos this, ih (s.next c.event) fun j hj => h (j + 1) (by simpa using hj)]
    simp

set_option maxHeartbeats 4000000 in
theorem meets_CheckEarlier {h : PH} {a : Option Addr} {n c : Nat} {l : List Cl} (x : ClsAt h a l) (hl : l.length = n) :
    Meets Try.prog 7 #[.slice a n c] h fun v h' => v = .bool true ∧ h' = h := by
  apply Meets.same
  apply P_law23_CheckEarlier_of
  unfold P_law23_CheckEarlier
  refine ⟨fun _ => ?_, fun h8 => ?_⟩
  · refine meets_alive23.look ?_
    simp only [oB_some]
    exact ⟨by trivial, PH.le_refl _⟩
  have h8 : n ≤ 8 := by have := of_decide_eq_false h8; omega
  refine (meets_theirs23 x hl (by omega)).mono ?_
  rintro _ h1 ⟨p1, c1, S1, rfl, row, l1, nS1⟩
  simp only [oS_some]
  have xc := row.recs clL_len
  refine (meets_Order xc hl (by omega) 3 2 3).mono ?_
  rintro _ h2 ⟨l2, p2, n2, c2, S2, rfl, ints, nS2⟩
  simp only [oTup_mk, oIx_some, oS_some, oB_some, oI_some, List.getElem?_toArray, List.getElem?_cons_zero, List.getElem?_cons_succ]
  refine ⟨rfl, ?_⟩
  have le2 := PH.le_trans l1 l2
  refine xSc_or (((n2 : Nat) : Int) != ((n : Nat) : Int)) (fun _ J hJ => hJ) ⟨fun _ => ?_, fun hx => ?_⟩
  · refine meets_alive23.look ?_
    simp only [oB_some]
    exact ⟨by trivial, le2⟩
  simp only [Bool.or_eq_false_iff, bne_eq_false_iff_eq] at hx
  obtain ⟨e0, en⟩ := hx
  have en : n2 = n := by omega
  subst en
  -- the order
  have hord : askO 3 2 3 l = srch l l.length 0 (Ms.new 3 2 3) := by unfold askO; rw [if_pos e0]
  have hcase := askE_cases 3 2 3 l
  have may : l.all Cl.may = true := by
    rcases hcase with h | h | h | h
    · rw [h.2] at e0; cases e0
    · rw [h.2.2] at e0; cases e0
    · exact h.2.1
    · exact h.2.1
  rw [hord] at ints
  have lenks := ints.1
  simp only [List.length_map] at lenks
  cases hks : srch l l.length 0 (Ms.new 3 2 3) with
  | none =>
    rw [hks] at ints lenks
    have n0 : n2 = 0 := by simpa using lenks
    subst n0
    refine xNew_intro fun b37 h3 l3 n37 e37 => ?_
    refine xBlk_split (fun h' => h3.le h') ?_ fun K hK => ?_
    · intro h4 l4
      refine meets_alive23.look ?_
      simp only [oB_some]
      exact ⟨by trivial, PH.le_trans le2 (PH.le_trans l3 l4)⟩
    refine xLoop4 (fun _ _ _ (i : Int) h' => i = 0 ∧ h' = h3) (fun _ _ _ _ _ => 0) ?_ ⟨rfl, rfl⟩
    rintro J q1 q2 q3 i _ ⟨rfl, rfl⟩ hJ
    exact ⟨fun hx => (by simp at hx), fun _ => hK _ (PH.le_refl _)⟩
  | some ks =>
  rw [hks] at ints lenks
  simp only [Option.getD_some] at ints lenks
  have V := srch_valid l.length 0 (Ms.new 3 2 3) ks (left_start l) hks
  have nw := fun j (hj : j < ks.length) => valid_new V hj
  clear hks hord
  refine xNew_intro fun b37 h3 l3 n37 e37 => ?_
  have met0 : MetAt h3 b37 [] := ⟨#[], 0, e37, by simp, fun k => by simp [mapGet, findE]⟩
  have le3 := PH.le_trans le2 l3
  have xc3 := (xc.le l2)
  have inth3 := ints
  refine xBlk_split (fun h' => h2.le h') ?_ fun K hK => ?_
  · intro h4 l4
    refine meets_alive23.look ?_
    simp only [oB_some]
    exact ⟨by trivial, PH.le_trans le2 l4⟩
  refine xLoop4 (fun p m c' (i : Int) h' => 0 ≤ i ∧ i ≤ n2 ∧ h2.le h' ∧ MetAt h' b37 (ks.take i.toNat) ∧ ∃ S, RowIn clL 7 61 h' p m c' ((ks.take i.toNat).map (cl l)) S ∧ ∀ b ∈ S, h2 b = none ∧ b ≠ b37) (fun _ _ _ (i : Int) _ => ((n2 : Int) - i).toNat) ?_
    ⟨by omega, by omega, l3, by simpa using met0, [], by simpa using RowIn.nil _ _, by simp⟩
  rintro J p m c' i h4 ⟨i0, i1, l4, met, S, rw, nS⟩ hJ
  refine ⟨fun hx => ?_, fun hx => hK _ l4⟩
  have hx := of_decide_eq_true hx
  have hw : IntKind.wrap .i64 (i + 1) = i + 1 := wrap64_id (by omega) (by omega)
  have hi : i.toNat < ks.length := by omega
  have step : ∀ p' m' c' h', h2.le h' → MetAt h' b37 (ks.take (i.toNat + 1)) → (∃ S, RowIn clL 7 61 h' p' m' c' ((ks.take (i.toNat + 1)).map (cl l)) S ∧ ∀ b ∈ S, h2 b = none ∧ b ≠ b37) → J p' m' c' (i + 1) h' := fun p' m' c' h' q1 q2 q3 => hJ _ _ _ _ _ ⟨by omega, by omega, q1, by rw [show (i + 1).toNat = i.toNat + 1 from by omega]; exact q2, by rw [show (i + 1).toNat = i.toNat + 1 from by omega]; exact q3⟩ (by omega)
  obtain ⟨w1, w2, w3⟩ := nw i.toNat hi
  have tk : ks.take (i.toNat + 1) = ks.take i.toNat ++ [ks[i.toNat]] := List.take_succ_eq_append_getElem hi
  have pser := fun j hj => prefix_serial V (i.toNat + 1) j (by omega) hj
  have pval := prefix_valid V (i.toNat + 1) (by omega)
  clear hJ hK
  obtain ⟨b, hb, hcell⟩ := ints_at ints (k := i.toNat) (by simpa using hi)
  have hcell4 := PH.cell_le l4 hcell
  simp only [List.getElem_map] at hcell4
  generalize hk : ks[i.toNat] = k at hcell4 w1 w2 w3 tk
  refine xBlk_split3 (fun p' m' c' h' => h2.le h' ∧ MetAt h' b37 (ks.take (i.toNat + 1)) ∧ ∃ S, RowIn clL 7 61 h' p' m' c' ((ks.take (i.toNat + 1)).map (cl l)) S ∧ ∀ b ∈ S, h2 b = none ∧ b ≠ b37) (fun p' m' c' h' ⟨q1, q2, q3⟩ => by rw [hw]; exact step p' m' c' h' q1 q2 q3) fun K hK => ?_
  clear step
  refine ⟨b, hb, i0, hx, ?_⟩
  simp only [hcell4, oI_some]
  have hkn : (k : Int) < n2 := by omega
  have d1 : decide ((k : Int) < 0) = false := by simp
  have d2 : decide ((k : Int) ≥ (n2 : Int)) = false := by simp; omega
  rw [d1, d2]
  refine xSc_or false (fun _ J hJ => hJ) ?_
  refine xSc_or false (fun _ J hJ => ?_) ⟨fun hx => (by cases hx), fun _ => ?_⟩
  · refine met.look k ?_
    rw [if_neg w2]
    simp only [Option.getD_none, oB_some]
    exact hJ
  -- nobody who is left was over ahead
  refine xBlk_split (fun h' => h4.le h') ?_ fun K2 hK2 => ?_
  rotate_left
  · refine xLoop1 (fun (j : Int) h' => 0 ≤ j ∧ j ≤ n2 ∧ h4.le h') (fun (j : Int) _ => ((n2 : Int) - j).toNat) ?_ ⟨by omega, by omega, PH.le_refl _⟩
    rintro J2 j h5 ⟨j0, j1, l5⟩ hJ2
    refine ⟨fun hy => ?_, fun hy => hK2 _ l5⟩
    have hy := of_decide_eq_true hy
    have hw2 : IntKind.wrap .i64 (j + 1) = j + 1 := wrap64_id (by omega) (by omega)
    have hj : j.toNat < l.length := by omega
    have step : ∀ h', h4.le h' → J2 (j + 1) h' := fun h' l' => hJ2 _ _ ⟨by omega, by omega, l'⟩ (by omega)
    have hjc : j = ((j.toNat : Nat) : Int) := by omega
    generalize hjn : j.toNat = jn at hj hjc
    clear hJ2 hK2
    have le5 := PH.le_trans l4 l5
    obtain ⟨b', hb', c0, c1', c2', c3, c4, c5, c6⟩ := cls_at (xc3.le le5) (List.getElem?_eq_getElem hj)
    have hcl : cl l jn = l[jn] := by simp [cl, List.getD_eq_getElem?_getD, hj]
    rw [← hcl] at c0 c1' c2' c3 c4 c5 c6
    refine xBlk_split (fun h' => h4.le h') (fun h' l' => by rw [hw2]; exact step h' l') fun K3 hK3 => ?_
    refine ⟨b', hb', j0, hy, ?_⟩
    simp only [hjn, c0, c1', c2', c3, c4, c5, c6, oI_some]
    refine xBox rfl rfl rfl (by decide) (clL_one (cl l jn)) fun b11 h6 l6 n11 e11 => ?_
    have e11' : h6 b11 = some (.cells (clL (cl l jn)).toArray 61 (0, 0)) := e11
    have le6 := PH.le_trans l5 l6
    refine xDraw_self ?_
    rw [hjc]
    refine (met.le le6).look jn ?_
    have hget : Option.getD (if jn ∈ ks.take i.toNat then some (Value.bool true) else none) (.bool false) = .bool (decide (jn ∈ ks.take i.toNat)) := by
      by_cases hm : jn ∈ ks.take i.toNat <;> simp [hm]
    rw [hget]
    simp only [oB_some]
    have hno : (!decide (jn ∈ ks.take i.toNat) && decide ((cl l jn).to < (cl l k).fr)) = false := by
      by_cases hm : jn ∈ ks.take i.toNat
      · simp [hm]
      · have := w3 jn hj hm
        simp [hm]; omega
    refine xSc_and (((jn : Nat) : Int) != (k : Int)) (fun _ J hJ => hJ) ?_
    refine xSc_and (decide ((cl l jn).to < (cl l k).fr)) (fun _ J hJ => ?_) ?_
    · obtain ⟨b2, hb2, g0, g1, g2, g3, g4, g5, g6⟩ := cls_at (xc3.le (PH.le_trans le5 l6)) (List.getElem?_eq_getElem w1)
      have hcl2 : cl l k = l[k] := by simp [cl, List.getD_eq_getElem?_getD, w1]
      rw [← hcl2] at g0 g1 g2 g3 g4 g5 g6
      simp only [xNn_some, add_mk, cell_mk, upd_at, del_at, if_true, if_false, Option.bind_some, List.getElem?_toArray, List.getElem?_cons_succ, List.getElem?_cons_zero, oI_some, oS_some, oM_some, oB_some, oP_some, oT_some, xIdx_some, Nat.zero_add, Nat.add_zero, Nat.mul_one, e11', clL]
      refine ⟨b2, hb2, by omega, hkn, ?_⟩
      simp only [Int.toNat_natCast, g5, oI_some]
      exact hJ
    refine ⟨fun hx => ?_, fun _ => hK3 _ le6⟩
    exfalso
    revert hno hx
    cases decide (jn ∈ ks.take i.toNat) <;> cases decide ((cl l jn).to < (cl l k).fr) <;> simp
  intro h5 l5
  have le5 := PH.le_trans l4 l5
  have met5 := met.le l5
  have rw5 := rw.le l5
  refine met5.put w2 fun O met6 => ?_
  have n37h2 : h2 b37 = none := n37
  have le6 : h2.le (h5.upd b37 O) := upd_le_upd n37h2 le5
  have rw6 : RowIn clL 7 61 (h5.upd b37 O) p m c' ((ks.take i.toNat).map (cl l)) S := rw5.of fun b hb => PH.upd_ne _ _ (nS b hb).2
  have e37' : ∃ O', (h5.upd b37 O) b37 = some O' := ⟨O, PH.upd_same _ _ _⟩
  rw [← tk] at met6
  generalize h5.upd b37 O = h6 at met6 le6 rw6 e37' ⊢
  obtain ⟨b2, hb2, g0, g1, g2, g3, g4, g5, g6⟩ := cls_at (xc3.le le6) (List.getElem?_eq_getElem w1)
  have hcl2 : cl l k = l[k] := by simp [cl, List.getD_eq_getElem?_getD, w1]
  rw [← hcl2] at g0 g1 g2 g3 g4 g5 g6
  refine ⟨b2, hb2, by omega, hkn, ?_⟩
  simp only [Int.toNat_natCast, g0, g1, g2, g3, g4, g5, g6, oI_some]
  refine xNew_intro fun b91 h7 l7 n91 e91 => ?_
  refine (rw6.le l7).app (x := cl l k) clL_len (clL_one _) e91 (by simp [List.length_take]; omega) ?_
  intro p' m' c'' h8 S' rw8 x8 nS8
  have le8 : h2.le h8 := fun y O hy => x8 y O (l7 y O (le6 y O hy)) fun hm => by rw [(nS y hm).1] at hy; cases hy
  have S37 : b37 ∉ S := fun hm => (nS _ hm).2 rfl
  have met8 : MetAt h8 b37 (ks.take (i.toNat + 1)) := by
    obtain ⟨es, cl', e, hk1, hg⟩ := met6
    exact ⟨es, cl', x8 _ _ (l7 _ _ e) S37, hk1, hg⟩
  have prow : RowIn clL 7 61 h8 p' m' c'' ((ks.take (i.toNat + 1)).map (cl l)) S' := by
    rw [tk, List.map_append]; exact rw8
  have nS' : ∀ b ∈ S', h2 b = none ∧ b ≠ b37 := fun b hb => by
    rcases nS8 b hb with h' | h'
    · exact nS b h'
    · refine ⟨none_of le6 (none_of l7 h'), fun e => ?_⟩
      subst e
      obtain ⟨O', hO'⟩ := e37'
      have := l7 _ _ hO'
      rw [h'] at this; cases this
  generalize hP : (ks.take (i.toNat + 1)).map (cl l) = P at prow pser pval
  have plen : P.length = i.toNat + 1 := by rw [← hP]; simp; omega
  have hm' : m' = i.toNat + 1 := prow.1.trans plen
  have pcls := prow.recs clL_len
  have s1 : ser (Ms.new 3 2 3) P = (i.toNat + 1, true) := by
    have := ser_all P (Ms.new 3 2 3) fun j hj => pser j (by omega)
    rw [this, plen]
  refine (meets_Serial pcls (plen.trans hm'.symm) (by omega) 3 2 3 (by decide) (by decide) (by decide)).look ?_
  rw [s1]
  simp only [oTup_mk, oIx_some, oS_some, oB_some, oI_some, List.getElem?_toArray, List.getElem?_cons_zero, List.getElem?_cons_succ]
  refine ⟨rfl, ?_⟩
  refine xSc_or false (fun _ J hJ => ?_) ⟨fun hx => (by cases hx), fun _ => ?_⟩
  · rw [hm'] at *
    simpa using hJ
  have pmay : P.all Cl.may = true := by
    rw [List.all_eq_true] at may ⊢
    intro y hy
    rw [← hP] at hy
    obtain ⟨q, hq, rfl⟩ := List.mem_map.1 hy
    obtain ⟨t, ht, rfl⟩ := List.getElem_of_mem (List.mem_of_mem_take hq)
    have hq1 := (nw t ht).1
    have : cl l ks[t] = l[ks[t]] := by simp [cl, List.getD_eq_getElem?_getD, hq1]
    rw [this]
    exact may _ (List.getElem_mem hq1)
  have pe0 : askE 3 2 3 P = 0 := by
    rcases askE_cases 3 2 3 P with h | h | h | h
    · exact absurd h.1 (by decide)
    · rw [pmay] at h; cases h.2.1
    · omega
    · exact h.2.2.2
  have psome : (askO 3 2 3 P).isSome = true := by
    unfold askO
    rw [if_pos pe0]
    obtain ⟨ks', hv⟩ := pval
    cases hh : srch P P.length 0 (Ms.new 3 2 3) with
    | none => exact absurd hh (srch_some P.length 0 _ ks' (left_start P) hv)
    | some r => rfl
  refine (meets_Can pcls (plen.trans hm'.symm) (by omega) 3 2 3).look ?_
  rw [psome, pe0]
  simp only [oTup_mk, oIx_some, oS_some, oB_some, oI_some, List.getElem?_toArray, List.getElem?_cons_zero, List.getElem?_cons_succ]
  refine ⟨rfl, ?_⟩
  refine xSc_or false (fun _ J hJ => hJ) ⟨fun hx => (by cases hx), fun _ => ?_⟩
  rw [← hP] at prow
  exact hK _ _ _ _ ⟨le8, met8, S', prow, nS'⟩

end Go.Ck

/-
  Calls as they stand: the document's way; the walk of CheckSerial.
-/
set_option linter.unusedSimpArgs false
set_option linter.unusedVariables false
namespace Go.Ck
open Go Go.Sx Go.Md Go.Rf Go.Proofs Go.Proofs.Ytnnedfhpicdacaa

/-! ### Plain -/
def serT (t o m : Int) (l : List Cl) : Nat × Bool := if newOk t o m = true then ser (Ms.new t o m) l else (0, false)
theorem ser_le : ∀ (l : List Cl) (s : Ms), (ser s l).1 ≤ l.length := by
  intro l
  induction l with
  | nil => intro s; simp [ser]
  | cons c l ih =>
    intro s
    rw [ser_cons]
    split
    · have := ih (s.next c.event); simp; omega
    · simp
theorem serT_le (t o m : Int) (l : List Cl) : (serT t o m l).1 ≤ l.length := by
  unfold serT; split
  · exact ser_le _ _
  · simp
theorem ser_codes : ∀ (l : List Cl) (s : Ms) (j : Nat), j < (ser s l).1 → (((l.map Cl.event).take j).foldl Ms.next s).code (cl l j).event = 0 := by
  intro l
  induction l with
  | nil => intro s j h; simp [ser] at h
  | cons c l ih =>
    intro s j h
    rw [ser_cons] at h
    split at h
    · rename_i hc
      cases j with
      | zero => exact hc
      | succ j => exact ih (s.next c.event) j (by simpa using h)
    · simp at h
theorem valid_id {P : List Cl} {s : Ms} (hf : ∀ i j, i < P.length → j < P.length → (cl P i).to < (cl P j).fr → i < j) (hc : ∀ j, j < P.length → (((P.map Cl.event).take j).foldl Ms.next s).code (cl P j).event = 0) : ∃ ks, Valid P 0 s ks := by
  have key : ∀ q i, q + i = P.length → Valid P (2 ^ i - 1) (((P.map Cl.event).take i).foldl Ms.next s) (List.range' i q) := by
    intro q
    induction q with
    | zero =>
      intro i hi
      have : i = P.length := by omega
      subst this
      exact left_full
    | succ q ih =>
      intro i hi
      have hil : i < P.length := by omega
      refine ⟨by omega, free_mk (by simp [Nat.testBit_two_pow_sub_one]) ?_, hc i hil, ?_⟩
      · intro i' hi' hlt
        have := hf i' i hi' hil hlt
        rw [Nat.testBit_two_pow_sub_one]; simp [this]
      · have e1 : 2 ^ i - 1 ||| 2 ^ i = 2 ^ (i + 1) - 1 := by
          apply Nat.eq_of_testBit_eq
          intro x
          rw [testBit_or_pow, Nat.testBit_two_pow_sub_one, Nat.testBit_two_pow_sub_one]
          by_cases hx : x < i
          · simp [hx]; omega
          · by_cases hx2 : i = x
            · simp [hx2]
            · simp [hx, hx2]; omega
        have hcl : (cl P i).event = (P.map Cl.event)[i]'(by simpa using hil) := by simp [cl, List.getD_eq_getElem?_getD, hil]
        have e2 : (((P.map Cl.event).take i).foldl Ms.next s).next (cl P i).event = ((P.map Cl.event).take (i + 1)).foldl Ms.next s := by
          rw [List.take_succ_eq_append_getElem (by simpa using hil), List.foldl_append, hcl]; rfl
        rw [e1, e2]
        exact ih (i + 1) (by omega)
  exact ⟨_, key P.length 0 (by omega)⟩

/-- A call at times of its own. -/
def tmc (j : Nat) (c : Cl) : Cl := { c with fr := 2 * (j : Int), to := 2 * (j : Int) + 1 }
/-- Calls that were taken as they stand, at times that do not overlap, can have been. -/
theorem times_can {t o m : Int} {l L l' : List Cl} (h12 : l.length ≤ 12) (hL : L = l.take (serT t o m l).1) (len : l'.length = L.length) (hl : ∀ (j : Nat) c, L[j]? = some c → l'[j]? = some (tmc j c)) (may : ∀ (j : Nat) c, L[j]? = some c → (tmc j c).may = true) (ok : newOk t o m = true) :
    askE t o m l' = 0 ∧ (askO t o m l').isSome = true := by
  have kle := serT_le t o m l
  have Ll : L.length = (serT t o m l).1 := by rw [hL, List.length_take]; omega
  have hall : l'.all Cl.may = true := by
    rw [List.all_eq_true]
    intro c hc
    obtain ⟨j, hj, rfl⟩ := List.getElem_of_mem hc
    have hjL : j < L.length := by omega
    have h1 := hl j _ (List.getElem?_eq_getElem hjL)
    rw [List.getElem?_eq_getElem hj] at h1
    simp only [Option.some.injEq] at h1
    rw [h1]; exact may j _ (List.getElem?_eq_getElem hjL)
  have e0 : askE t o m l' = 0 := by
    rcases askE_cases t o m l' with h | h | h | h
    · rw [ok] at h; cases h.1
    · rw [hall] at h; cases h.2.1
    · omega
    · exact h.2.2.2
  refine ⟨e0, ?_⟩
  unfold askO
  rw [if_pos e0]
  have gl : ∀ j, j < l'.length → ∃ c, L[j]? = some c ∧ cl l' j = tmc j c := by
    intro j hj
    have hjL : j < L.length := by omega
    refine ⟨_, List.getElem?_eq_getElem hjL, ?_⟩
    unfold cl
    rw [List.getD_eq_getElem?_getD, hl j _ (List.getElem?_eq_getElem hjL)]; rfl
  have hmap : l'.map Cl.event = (l.map Cl.event).take (serT t o m l).1 := by
    apply List.ext_getElem?
    intro j
    rw [← List.map_take, ← hL, List.getElem?_map, List.getElem?_map]
    by_cases hj : j < l'.length
    · obtain ⟨c, h1, h2⟩ := gl j hj
      rw [h1, hl j c h1]; rfl
    · rw [List.getElem?_eq_none (by omega), List.getElem?_eq_none (by omega)]
  have sT : serT t o m l = ser (Ms.new t o m) l := by unfold serT; rw [if_pos ok]
  have V := valid_id (P := l') (s := Ms.new t o m) (fun i j hi hj hlt => by
      obtain ⟨c, _, e1⟩ := gl i hi
      obtain ⟨c', _, e2⟩ := gl j hj
      rw [e1, e2] at hlt
      simp only [tmc] at hlt
      omega) (fun j hj => by
      have hjk : j < (ser (Ms.new t o m) l).1 := by rw [← sT, ← Ll, ← len]; exact hj
      have := ser_codes l (Ms.new t o m) j hjk
      obtain ⟨c, h1, h2⟩ := gl j hj
      rw [hmap, List.take_take, Nat.min_eq_left (by rw [sT]; omega), h2]
      have : cl l j = c := by
        rw [hL, List.getElem?_take] at h1
        split at h1
        · unfold cl; rw [List.getD_eq_getElem?_getD, h1]; rfl
        · cases h1
      rw [show (tmc j c).event = c.event from rfl, ← this]
      assumption)
  obtain ⟨ks, hv⟩ := V
  cases hh : srch l' l'.length 0 (Ms.new t o m) with
  | none => exact absurd hh (srch_some l'.length 0 _ ks (left_start l') hv)
  | some r => rfl

/-! ### The document's -/
theorem used14 {r : Rm × Int} (w : r.1.Wf) {K : Array Value → Int → Prop} (k : K (rmA r.1) r.2) :
    oTup (ret14 r) 2 fun cs => oIx cs[0]? fun w0 => oAgg w0 227 fun c0 => oIx cs[1]? fun w1 => oI .i64 (some w1) fun x => K c0 x := by
  unfold ret14
  simp only [oTup_mk, oIx_some, oAgg_mk, oI_some, List.getElem?_toArray, List.getElem?_cons_zero, List.getElem?_cons_succ]
  exact ⟨rfl, rmA_size w, k⟩
theorem wf_apply {R : Rm} {s : Ms} (S : Sim R s) (e : Ev) : (R.apply e).1.Wf := (sim_apply S e).2.wf
theorem sim_rng {R : Rm} {s : Ms} (S : Sim R s) : R.n ≤ 8 ∧ R.m ≤ 8 := by
  have := S.n; have := S.m; have := S.ok.nf; have := S.ok.nm; omega

theorem meets_rSerial {h : PH} {a : Option Addr} {n c : Nat} {l : List Cl} (x : ClsAt h a l) (hl : l.length = n) (hn : n ≤ 1000000) (t o m : Int) :
    Meets Try.prog 32 #[.int .i64 t, .int .i64 o, .int .i64 m, .slice a n c] h fun v h' => v = .tuple #[.int .i64 (serT t o m l).1, .bool (serT t o m l).2] ∧ h' = h := by
  apply Meets.same
  apply P_ref23_Serial_of
  unfold P_ref23_Serial
  refine (meets_new' t o m).look ?_
  cases ok : newOk t o m with
  | false =>
    have w0 := wf_new 0 0 0
    rw [if_neg (by simp)]
    refine used14 (r := (Rm.new 0 0 0, 1)) w0 ?_
    simp only [oAgg_mk, oI_some]
    refine ⟨rmA_size w0, ?_⟩
    refine xNew_intro fun b h1 l1 nb e1 => ?_
    refine xSt_all e1 zero_size (rmA_size w0) (by decide) (one_rm _) ?_
    refine ⟨fun _ => ⟨?_, upd_le_upd nb l1⟩, fun hx => (by cases hx)⟩
    unfold serT; rw [ok]; rfl
  | true =>
    rw [if_pos rfl]
    have S0 := sim_new ok
    refine used14 (r := (Rm.new t o m, 0)) S0.wf ?_
    simp only [oAgg_mk, oI_some]
    refine ⟨rmA_size S0.wf, ?_⟩
    refine xNew_intro fun b h1 l1 nb e1 => ?_
    refine xSt_all e1 zero_size (rmA_size S0.wf) (by decide) (one_rm _) ?_
    have M0 : Mx (Rm.new t o m) (h1.upd b (.cells (rmA (Rm.new t o m)) 77 (0, 0))) b := ⟨PH.upd_same _ _ _, S0.wf⟩
    have l2 : h.le (h1.upd b (.cells (rmA (Rm.new t o m)) 77 (0, 0))) := upd_le_upd nb l1
    generalize h1.upd b (.cells (rmA (Rm.new t o m)) 77 (0, 0)) = h2 at M0 l2
    clear l1 e1
    refine ⟨fun hx => (by cases hx), fun _ => ?_⟩
    have sT : serT t o m l = ser (Ms.new t o m) l := by unfold serT; rw [if_pos ok]
    rw [sT]
    generalize Ms.new t o m = s0 at S0
    generalize Rm.new t o m = R0 at S0 M0
    refine xBlk_split (fun h' => ser s0 l = (n, true) ∧ h.le h') ?_ fun K hK => ?_
    · rintro h' ⟨e, le⟩
      rw [e]; exact ⟨rfl, le⟩
    refine xLoop1 (fun (i : Int) h' => 0 ≤ i ∧ i ≤ n ∧ ∃ (R : Rm) (s : Ms), Sim R s ∧ Mx R h' b ∧ h.le h' ∧ ser s0 l = (i.toNat + (ser s (l.drop i.toNat)).1, (ser s (l.drop i.toNat)).2)) (fun (i : Int) _ => ((n : Int) - i).toNat) ?_ ⟨by omega, by omega, R0, s0, S0, M0, l2, by simp⟩
    clear M0 l2
    rintro J i h3 ⟨i0, i1, R, s, S, M, le, hs⟩ hJ
    refine ⟨fun hx => ?_, fun hx => ?_⟩
    · have hx := of_decide_eq_true hx
      have hw : IntKind.wrap .i64 (i + 1) = i + 1 := wrap64_id (by omega) (by omega)
      have hi : i.toNat < l.length := by omega
      have hd : l.drop i.toNat = l[i.toNat] :: l.drop (i.toNat + 1) := List.drop_eq_getElem_cons hi
      rw [hd] at hs
      obtain ⟨ba, rfl, c0, c1, c2, c3, c4, c5, c6⟩ := cls_at (x.le le) (List.getElem?_eq_getElem hi)
      generalize l[i.toNat] = e at c0 c1 c2 c3 c4 c5 c6 hs
      have step : ∀ h' (R' : Rm) (s' : Ms), Sim R' s' → Mx R' h' b → h.le h' → ser s0 l = (i.toNat + 1 + (ser s' (l.drop (i.toNat + 1))).1, (ser s' (l.drop (i.toNat + 1))).2) → J (i + 1) h' := fun h' R' s' k1 k2 k3 k4 => hJ _ _ ⟨by omega, by omega, R', s', k1, k2, k3, by rw [show (i + 1).toNat = i.toNat + 1 from by omega]; exact k4⟩ (by omega)
      clear hJ hK
      refine xBlk_split (fun h' => ∃ (R' : Rm) (s' : Ms), Sim R' s' ∧ Mx R' h' b ∧ h.le h' ∧ ser s0 l = (i.toNat + 1 + (ser s' (l.drop (i.toNat + 1))).1, (ser s' (l.drop (i.toNat + 1))).2)) (fun h' ⟨R', s', k1, k2, k3, k4⟩ => by rw [hw]; exact step h' R' s' k1 k2 k3 k4) fun K hK => ?_
      clear step
      obtain ⟨rn, rm⟩ := sim_rng S
      obtain ⟨ac, aS⟩ := sim_apply S e.event
      have tail : ∀ (b13 : Nat) (h9 : PH), h3.le h9 → h9 b13 = some (.cells (rmA (R.apply e.event).1) 77 (0, 0)) → xIte ((R.apply e.event).2 != 0) (fun J => (Value.tuple #[.int .i64 i, .bool false] = .tuple #[.int .i64 (ser s0 l).1, .bool (ser s0 l).2] ∧ h.le h9)) (fun J => J h9) (fun h10 => oBig h10 ⟨b13, 0, none⟩ 227 fun x => xSt 227 h10 ⟨b, 0, none⟩ x.toList fun h11 => K h11) := by
        intro b13 h9 l9 e13
        rw [ser_cons] at hs
        refine ⟨fun hc => ?_, fun hc => ?_⟩
        · have hc : s.code e.event ≠ 0 := by rw [← ac]; simpa using hc
          rw [if_neg hc] at hs
          have : ((i.toNat : Nat) : Int) = i := by omega
          rw [hs]
          exact ⟨by simp [this], PH.le_trans le l9⟩
        · have hc : s.code e.event = 0 := by rw [← ac]; simpa using hc
          rw [if_pos hc] at hs
          simp only [oBig_eq e13 (rmA_size aS.wf)]
          have M9 := M.le l9
          refine xSt_all M9.m (rmA_size M9.w) (rmA_size aS.wf) (by decide) (one_rm _) ?_
          refine hK _ ⟨_, _, aS, ⟨PH.upd_same _ _ _, aS.wf⟩, upd_le_upd nb (PH.le_trans le l9), ?_⟩
          rw [hs]; simp only [Prod.mk.injEq, and_true]; omega
      refine xDraw_le ?_
      simp only [M.all]
      refine ⟨ba, rfl, i0, hx, ?_⟩
      have c0' := c0
      simp only [add_zero'] at c0'
      simp only [add_zero', c0', c1, c2, c3, c4, oI_some]
      refine ⟨?_, ?_⟩
      · refine (meets_apply' S.wf rn rm e.event).look ?_
        refine used14 (wf_apply S e.event) ?_
        try simp only [oAgg_mk, oI_some]
        refine ⟨PH.le_refl _, rmA_size aS.wf, ?_⟩
        intro b13 n13
        refine ⟨PH.le_upd n13, ?_⟩
        refine xSt_all (PH.upd_same _ _ _) zero_size (rmA_size aS.wf) (by decide) (one_rm _) ?_
        have l9 := upd_le_upd (O := .cells (rmA (R.apply e.event).1) 77 (0, 0)) n13 (PH.le_upd (O := .cells (zeroC Try.prog 77) 77 (0, 0)) n13)
        exact ⟨l9, tail b13 _ l9 (PH.upd_same _ _ _)⟩
      · intro b13 n13
        refine ⟨PH.le_upd n13, ?_⟩
        refine (meets_apply' S.wf rn rm e.event).look ?_
        refine used14 (wf_apply S e.event) ?_
        try simp only [oAgg_mk, oI_some]
        refine ⟨PH.le_upd n13, rmA_size aS.wf, ?_⟩
        refine xSt_all (PH.upd_same _ _ _) zero_size (rmA_size aS.wf) (by decide) (one_rm _) ?_
        have l9 := upd_le_upd (O := .cells (rmA (R.apply e.event).1) 77 (0, 0)) n13 (PH.le_upd (O := .cells (zeroC Try.prog 77) 77 (0, 0)) n13)
        exact ⟨l9, tail b13 _ l9 (PH.upd_same _ _ _)⟩
    · have hx := of_decide_eq_false hx
      have : l.drop i.toNat = [] := List.drop_eq_nil_of_le (by omega)
      rw [this] at hs
      refine hK _ ⟨?_, le⟩
      rw [hs]
      simp only [ser, Prod.mk.injEq, and_true]
      omega

theorem meets_SerialT {h : PH} {a : Option Addr} {n c : Nat} {l : List Cl} (x : ClsAt h a l) (hl : l.length = n) (hn : n ≤ 1000000) (t o m : Int) :
    Meets Try.prog 31 #[.int .i64 t, .int .i64 o, .int .i64 m, .slice a n c] h fun v h' => v = .tuple #[.int .i64 (serT t o m l).1, .bool (serT t o m l).2] ∧ h' = h := by
  unfold serT
  cases ok : newOk t o m with
  | false => rw [if_neg (by simp)]; exact meets_Serial_no t o m ok
  | true =>
    rw [if_pos rfl]
    obtain ⟨ht, ho⟩ := newOk_rng ok
    exact meets_Serial x hl hn t o m ok ho ht

end Go.Ck

/-
  A log in memory.
-/
set_option linter.unusedSimpArgs false
set_option linter.unusedVariables false
namespace Go.Gh
open Go Go.Sx Go.Md Go.Proofs Go.Proofs.Ytnnedfhpicdacaa



structure GL where
  l : Nat
  tb : Nat
  M : ML
  eb : Option Nat
def GL.all (G : GL) : List Nat := G.l :: G.tb :: (G.M.all ++ G.eb.toList)
def gp (G : GL) : Value := .pointer (some ⟨G.l, 0, none⟩)

def EntsAt (h : PH) (eb : Option Nat) (base : Option Addr) (cap : Nat) (l : List En) : Prop :=
  (eb = none ∧ l = [] ∧ base = none ∧ cap = 0) ∨ ∃ b junk, eb = some b ∧ base = some ⟨b, 0, none⟩ ∧ h b = some (.cells (recArr enL l junk) 90 (0, 0)) ∧ List.length junk = (cap - l.length) * 13 ∧ l.length ≤ cap

structure GRep (h : PH) (G : GL) (g : Gs) : Prop where
  nd : G.all.Nodup
  nt : g.threads.length ≤ 8
  cl : ∃ c base cap, h G.l = some (.cells #[.int .i64 g.objects, .pointer (some ⟨G.M.m, 0, none⟩), .slice (some ⟨G.tb, 0, none⟩) g.threads.length c, .slice base g.entries.length cap] 109 (0, 0)) ∧ EntsAt h G.eb base cap g.entries
  ct : ∃ junk, h G.tb = some (.cells (recArr thL g.threads junk) 147 (0, 0))
  cm : MRep h G.M g.model

theorem EntsAt.of {h h' : PH} {eb : Option Nat} {base : Option Addr} {cap : Nat} {l : List En} (r : EntsAt h eb base cap l) (e : ∀ b, eb = some b → h' b = h b) : EntsAt h' eb base cap l := by
  rcases r with r | ⟨b, junk, h1, h2, h3, h4⟩
  · exact .inl r
  · exact .inr ⟨b, junk, h1, h2, (e b h1).trans h3, h4⟩
theorem GRep.of {h h' : PH} {G : GL} {g : Gs} (r : GRep h G g) (e : ∀ b ∈ G.all, h' b = h b) : GRep h' G g := by
  obtain ⟨nd, nt, ⟨c, base, cap, cl, ce⟩, ct, cm⟩ := r
  have e1 := e G.l (by simp [GL.all]); have e2 := e G.tb (by simp [GL.all])
  refine ⟨nd, nt, ⟨c, base, cap, by rw [e1]; exact cl, ce.of fun b hb => e b (by simp [GL.all, hb])⟩, by rw [e2]; exact ct, cm.of fun b hb => e b (by simp [GL.all, hb])⟩
theorem GRep.known {h : PH} {G : GL} {g : Gs} (r : GRep h G g) : ∀ b ∈ G.all, ∃ O, h b = some O := by
  obtain ⟨nd, nt, ⟨c, base, cap, cl, ce⟩, ⟨j, ct⟩, cm⟩ := r
  intro b hb
  simp only [GL.all, List.mem_cons, List.mem_append] at hb
  rcases hb with rfl | rfl | hb | hb
  · exact ⟨_, cl⟩
  · exact ⟨_, ct⟩
  · exact cm.known b hb
  · rcases ce with ⟨h1, _⟩ | ⟨x, junk, h1, _, h3, _⟩
    · rw [h1] at hb; simp at hb
    · rw [h1] at hb; simp at hb; subst hb; exact ⟨_, h3⟩
theorem GRep.le {h h' : PH} {G : GL} {g : Gs} (r : GRep h G g) (l : h.le h') : GRep h' G g := by
  refine r.of fun b hb => ?_
  obtain ⟨O, hO⟩ := r.known b hb
  rw [hO]; exact l _ _ hO
theorem GRep.off {h : PH} {G : GL} {g : Gs} (r : GRep h G g) {b : Nat} (n : h b = none) : ∀ x ∈ G.all, x ≠ b := by
  intro x hx e
  obtain ⟨O, hO⟩ := r.known x hx
  subst e; rw [n] at hO; cases hO
theorem l_in (G : GL) : G.l ∈ G.all := by simp [GL.all]
theorem tb_in (G : GL) : G.tb ∈ G.all := by simp [GL.all]
theorem M_in (G : GL) : ∀ b ∈ G.M.all, b ∈ G.all := by intro b hb; simp [GL.all, hb]
theorem GRep.ltb {h : PH} {G : GL} {g : Gs} (r : GRep h G g) : G.l ≠ G.tb := by
  have := r.nd; simp only [GL.all, List.nodup_cons, List.mem_cons, not_or] at this; exact this.1.1
theorem GRep.lM {h : PH} {G : GL} {g : Gs} (r : GRep h G g) : ∀ b ∈ G.M.all, b ≠ G.l ∧ b ≠ G.tb := by
  have := r.nd; simp only [GL.all, List.nodup_cons, List.mem_cons, List.mem_append, not_or] at this
  intro b hb
  exact ⟨fun e => this.1.2.1 (e ▸ hb), fun e => this.2.1.1 (e ▸ hb)⟩
theorem GRep.lE {h : PH} {G : GL} {g : Gs} (r : GRep h G g) : ∀ b, G.eb = some b → b ≠ G.l ∧ b ≠ G.tb ∧ b ∉ G.M.all := by
  have := r.nd; simp only [GL.all, List.nodup_cons, List.mem_cons, List.mem_append, not_or, List.nodup_append] at this
  intro b hb
  obtain ⟨⟨_, _, a⟩, ⟨_, c⟩, ⟨_, _, d⟩⟩ := this
  refine ⟨fun e => a (by rw [hb]; simp [e]), fun e => c (by rw [hb]; simp [e]), fun hm => d b hm b (by rw [hb]; simp) rfl⟩

theorem GRep.setTh {h : PH} {G : GL} {g : Gs} (r : GRep h G g) {ts : List Th} (hl : ts.length = g.threads.length) (j : List Value) : GRep (h.upd G.tb (.cells (recArr thL ts j) 147 (0, 0))) G { g with threads := ts } := by
  have q1 := r.ltb
  have q2 := r.lM
  have q3 := r.lE
  obtain ⟨nd, nt, ⟨c, base, cap, cl, ce⟩, ct, cm⟩ := r
  refine ⟨nd, by simpa [hl] using nt, ⟨c, base, cap, by rw [PH.upd_ne _ _ q1, cl]; simp only [hl], ce.of fun b hb => PH.upd_ne _ _ (q3 b hb).2.1⟩, ⟨j, PH.upd_same _ _ _⟩, cm.of fun b hb => PH.upd_ne _ _ (q2 b hb).2⟩
theorem GRep.setM {h h' : PH} {G : GL} {g : Gs} (r : GRep h G g) {m : Ms} (hm : MRep h' G.M m) (x : Ext G.M.all h h') : GRep h' G { g with model := m } := by
  have q2 := r.lM
  have q3 := r.lE
  obtain ⟨nd, nt, ⟨c, base, cap, cl, ce⟩, ⟨j, ct⟩, cm⟩ := r
  refine ⟨nd, nt, ⟨c, base, cap, x _ _ cl (fun hm => (q2 _ hm).1 rfl), ?_⟩, ⟨j, x _ _ ct (fun hm => (q2 _ hm).2 rfl)⟩, hm⟩
  rcases ce with r | ⟨b, junk, h1, h2, h3, h4⟩
  · exact .inl r
  · exact .inr ⟨b, junk, h1, h2, x _ _ h3 (q3 b h1).2.2, h4⟩

/-! ### No log -/
theorem meets_gok_nil {h : PH} : Meets Try.prog 69 #[.pointer none] h fun v h' => v = .bool false ∧ h' = h := by
  apply P_ghost_Log_ok_of
  unfold P_ghost_Log_ok
  exact xSc_and true (fun hb => by cases hb) ⟨rfl, rfl⟩
theorem meets_gok_empty {h : PH} {l : Nat} {a b c : Value} (hl : h l = some (.cells #[a, .pointer none, b, c] 109 (0, 0))) : Meets Try.prog 69 #[.pointer (some ⟨l, 0, none⟩)] h fun v h' => v = .bool false ∧ h' = h := by
  apply P_ghost_Log_ok_of
  unfold P_ghost_Log_ok
  refine xSc_and false (fun _ J hJ => ?_) ⟨rfl, rfl⟩
  simp only [xNn_some, add_mk, cell_mk, upd_at, del_at, if_true, if_false, Option.bind_some, List.getElem?_toArray, List.getElem?_cons_succ, List.getElem?_cons_zero, oI_some, oS_some, oM_some, oB_some, oP_some, oT_some, xIdx_some, Nat.zero_add, Nat.add_zero, Nat.mul_one, hl]
  exact hJ
theorem meets_gok {h : PH} {G : GL} {g : Gs} (r : GRep h G g) : Meets Try.prog 69 #[gp G] h fun v h' => v = .bool true ∧ h' = h := by
  obtain ⟨c, base, cap, cl, ce⟩ := r.cl
  apply P_ghost_Log_ok_of
  unfold P_ghost_Log_ok
  refine xSc_and true (fun _ J hJ => ?_) ⟨rfl, rfl⟩
  simp only [xNn_some, add_mk, cell_mk, upd_at, del_at, if_true, if_false, Option.bind_some, List.getElem?_toArray, List.getElem?_cons_succ, List.getElem?_cons_zero, oI_some, oS_some, oM_some, oB_some, oP_some, oT_some, xIdx_some, Nat.zero_add, Nat.add_zero, Nat.mul_one, cl]
  exact hJ

/-- A log that nobody made. -/
def NoLog (h : PH) (p : Option Addr) : Prop := p = none ∨ ∃ l a b c, p = some ⟨l, 0, none⟩ ∧ h l = some (.cells #[a, .pointer none, b, c] 109 (0, 0))
theorem NoLog.le {h h' : PH} {p : Option Addr} (n : NoLog h p) (l : h.le h') : NoLog h' p := by
  rcases n with n | ⟨x, a, b, c, e, hx⟩
  · exact .inl n
  · exact .inr ⟨x, a, b, c, e, l _ _ hx⟩
theorem NoLog.ok {h : PH} {p : Option Addr} (n : NoLog h p) : Meets Try.prog 69 #[.pointer p] h fun v h' => v = .bool false ∧ h' = h := by
  rcases n with rfl | ⟨l, a, b, c, rfl, hl⟩
  · exact meets_gok_nil
  · exact meets_gok_empty hl
theorem NoLog.add {h : PH} {p : Option Addr} (n : NoLog h p) (e : En) : Meets Try.prog 40 #[.pointer p, enV e] h fun v h' => v = .int .i64 2 ∧ h' = h := by
  apply Meets.same
  apply P_ghost_Log_Add_of
  unfold P_ghost_Log_Add
  intro b hb
  have l : h.le _ := PH.le_upd (O := .cells #[.int .i64 e.kind, .int .i64 e.thread, .int .i64 e.number, .int .i64 e.op.kind, .int .i64 e.op.obj, .int .i64 e.op.arg, .int .i64 e.event.kind, .int .i64 e.event.thread, .int .i64 e.event.obj, .int .i64 e.event.arg, .int .i64 e.event.err, .int .i64 e.value, .int .i64 e.err] 90 (0, 0)) hb
  refine xBlk_split (fun _ => False) (fun _ x => x.elim) fun K hK => ?_
  refine (n.le l).ok.look ?_
  simp only [oB_some]
  exact ⟨fun _ => ⟨by trivial, l⟩, fun hx => (by cases hx)⟩
theorem NoLog.all {h : PH} {p : Option Addr} (n : NoLog h p) : Meets Try.prog 41 #[.pointer p] h fun v h' => v = .slice none 0 0 ∧ h' = h := by
  apply P_ghost_Log_All_of
  unfold P_ghost_Log_All
  refine n.ok.look ?_
  simp only [oB_some]
  exact ⟨fun _ => by simp, fun hx => (by cases hx)⟩
theorem NoLog.len {h : PH} {p : Option Addr} (n : NoLog h p) : Meets Try.prog 43 #[.pointer p] h fun v h' => v = .int .i64 0 ∧ h' = h := by
  apply P_ghost_Log_Len_of
  unfold P_ghost_Log_Len
  refine n.ok.look ?_
  simp only [oB_some]
  exact ⟨fun _ => by simp, fun hx => (by cases hx)⟩
theorem NoLog.model {h : PH} {p : Option Addr} (n : NoLog h p) : Meets Try.prog 44 #[.pointer p] h fun v h' => v = .pointer none ∧ h' = h := by
  apply P_ghost_Log_Model_of
  unfold P_ghost_Log_Model
  refine n.ok.look ?_
  simp only [oB_some]
  exact ⟨fun _ => by simp, fun hx => (by cases hx)⟩
theorem NoLog.opn {h : PH} {p : Option Addr} (n : NoLog h p) (t : Int) : Meets Try.prog 42 #[.pointer p, .int .i64 t] h fun v h' => v = .tuple #[.agg #[.int .i64 0, .int .i64 0, .int .i64 0], .bool false] ∧ h' = h := by
  apply Meets.same
  apply P_ghost_Log_Open_of
  unfold P_ghost_Log_Open
  intro b hb
  have l : h.le _ := PH.le_upd (O := .cells #[.int .i64 0, .int .i64 0, .int .i64 0] 86 (0, 0)) hb
  refine (n.le l).ok.look ?_
  simp only [oB_some]
  refine ⟨fun hx => (by cases hx), fun _ => ?_⟩
  refine ⟨fun hx => (by cases hx), fun _ => ?_⟩
  refine ⟨fun _ => ?_, fun hx => (by cases hx)⟩
  refine xSt_mk (PH.upd_same _ _ _) rfl (by decide) (by simp [oneCell]) (by simp) ?_
  rw [PH.upd_upd, setN3]
  simp only [xNn_some, add_mk, cell_mk, upd_at, del_at, if_true, if_false, Option.bind_some, List.getElem?_toArray, List.getElem?_cons_succ, List.getElem?_cons_zero, oI_some, oS_some, oM_some, oB_some, oP_some, oT_some, xIdx_some, Nat.zero_add, Nat.add_zero, Nat.mul_one]
  exact ⟨by trivial, l⟩

end Go.Gh

/-
  What is done to a log.
-/
set_option linter.unusedSimpArgs false
set_option linter.unusedVariables false
namespace Go.Gh
open Go Go.Sx Go.Md Go.Proofs Go.Proofs.Ytnnedfhpicdacaa

theorem enLen (e : En) : (enL e).length = 13 := rfl
theorem thLen (t : Th) : (thL t).length = 11 := rfl

/-- A log that is new behind 'h'. -/
def GFresh (h h' : PH) (v : Value) (g : Gs) : Prop := ∃ G, v = gp G ∧ GRep h' G g ∧ h.le h' ∧ ∀ b ∈ G.all, h b = none

theorem meets_gNew {h : PH} (t o c : Int) (hn : newOk t o c = true) : Meets Try.prog 39 #[.int .i64 t, .int .i64 o, .int .i64 c] h fun v h' => ∃ w, v = .tuple #[w, .int .i64 0] ∧ GFresh h h' w (Gs.new t o c) := by
  have hr : (1 ≤ t ∧ t ≤ 8) ∧ (1 ≤ o ∧ o ≤ 8) ∧ (1 ≤ c ∧ c ≤ 60) := by simpa [newOk, inRange] using hn
  obtain ⟨⟨t1, t2⟩, _⟩ := hr
  have t8 : t.toNat ≤ 8 := by omega
  apply P_ghost_New_of
  unfold P_ghost_New
  refine (meets_New t o c hn).mono ?_
  rintro _ h1 ⟨w, rfl, M, rfl, rM, l1, fM⟩
  simp only [oTup_mk, mp, xNn_some, add_mk, cell_mk, upd_at, del_at, if_true, if_false, Option.bind_some, List.getElem?_toArray, List.getElem?_cons_succ, List.getElem?_cons_zero, oI_some, oS_some, oM_some, oB_some, oP_some, oT_some, xIdx_some, Nat.zero_add, Nat.add_zero, Nat.mul_one, oIx_some]
  refine ⟨rfl, fun hx => (by cases hx), fun _ => ?_⟩
  refine ⟨by omega, by omega, by omega, by omega, ?_⟩
  intro tb ntb
  intro l nl
  have le1 : h1.le _ := PH.le_upd (O := .cells (List.replicate t.toNat [Value.int .i64 0, .int .i64 0, .int .i64 0, .int .i64 0, .bool false, .int .i64 0, .int .i64 0, .int .i64 0, .int .i64 0, .int .i64 0, .int .i64 0]).flatten.toArray 147 (0, 0)) ntb
  have nl1 := none_of le1 nl
  have le2 : h1.le _ := upd_le_upd nl1 (O := .cells #[.int .i64 o, .pointer (some ⟨M.m, 0, none⟩), .slice (some ⟨tb, 0, none⟩) t.toNat t.toNat, .slice none 0 0] 109 (0, 0)) le1
  have dlt : l ≠ tb := fun e => by subst e; simp at nl
  refine ⟨_, rfl, ⟨l, tb, M, none⟩, rfl, ?_, PH.le_trans l1 le2, ?_⟩
  · refine ⟨?_, by simpa [Gs.new] using t8, ⟨t.toNat, none, 0, by simp [Gs.new], .inl ⟨rfl, rfl, rfl, rfl⟩⟩, ⟨[], ?_⟩, rM.le le2⟩
    · simp only [GL.all, Option.toList, List.append_nil, List.nodup_cons, List.mem_cons, not_or]
      refine ⟨⟨dlt, fun hm => ?_⟩, fun hm => ?_, rM.nd⟩
      · obtain ⟨O, hO⟩ := rM.known _ hm
        rw [nl1] at hO; cases hO
      · obtain ⟨O, hO⟩ := rM.known _ hm
        rw [ntb] at hO; cases hO
    · simp only [upd_at, Ne.symm dlt, if_false, if_true]
      congr 2
      simp only [recArr, List.append_nil, Gs.new, List.map_replicate]
      rfl
  · intro b hb
    simp only [GL.all, Option.toList, List.append_nil, List.mem_cons] at hb
    rcases hb with rfl | rfl | hb
    · exact none_of l1 nl1
    · exact none_of l1 ntb
    · exact fM b hb

theorem meets_gNew_no {h : PH} (t o c : Int) (hn : newOk t o c = false) : Meets Try.prog 39 #[.int .i64 t, .int .i64 o, .int .i64 c] h fun v h' => v = .tuple #[.pointer none, .int .i64 1] ∧ h' = h := by
  apply P_ghost_New_of
  unfold P_ghost_New
  refine (meets_New_no t o c hn).look ?_
  simp only [oTup_mk, xNn_some, add_mk, cell_mk, upd_at, del_at, if_true, if_false, Option.bind_some, List.getElem?_toArray, List.getElem?_cons_succ, List.getElem?_cons_zero, oI_some, oS_some, oM_some, oB_some, oP_some, oT_some, xIdx_some, Nat.zero_add, Nat.add_zero, Nat.mul_one, oIx_some]
  exact ⟨rfl, fun _ => by simp, fun hx => (by cases hx)⟩

theorem meets_gLen {h : PH} {G : GL} {g : Gs} (r : GRep h G g) : Meets Try.prog 43 #[gp G] h fun v h' => v = .int .i64 g.entries.length ∧ h' = h := by
  obtain ⟨c, base, cap, cl, ce⟩ := r.cl
  apply P_ghost_Log_Len_of
  unfold P_ghost_Log_Len
  refine (meets_gok r).look ?_
  simp only [oB_some]
  refine ⟨fun hx => (by cases hx), fun _ => ?_⟩
  simp only [xNn_some, add_mk, cell_mk, upd_at, del_at, if_true, if_false, Option.bind_some, List.getElem?_toArray, List.getElem?_cons_succ, List.getElem?_cons_zero, oI_some, oS_some, oM_some, oB_some, oP_some, oT_some, xIdx_some, Nat.zero_add, Nat.add_zero, Nat.mul_one, cl]
  simp

theorem meets_gModel {h : PH} {G : GL} {g : Gs} (r : GRep h G g) : Meets Try.prog 44 #[gp G] h fun v h' => Fresh h h' v g.model := by
  obtain ⟨c, base, cap, cl, ce⟩ := r.cl
  apply P_ghost_Log_Model_of
  unfold P_ghost_Log_Model
  refine (meets_gok r).look ?_
  simp only [oB_some]
  refine ⟨fun hx => (by cases hx), fun _ => ?_⟩
  simp only [xNn_some, add_mk, cell_mk, upd_at, del_at, if_true, if_false, Option.bind_some, List.getElem?_toArray, List.getElem?_cons_succ, List.getElem?_cons_zero, oI_some, oS_some, oM_some, oB_some, oP_some, oT_some, xIdx_some, Nat.zero_add, Nat.add_zero, Nat.mul_one, cl]
  refine (meets_Clone r.cm).mono ?_
  rintro _ h' ⟨L, rfl, x⟩
  simp only [mp, xNn_some, add_mk, cell_mk, upd_at, del_at, if_true, if_false, Option.bind_some, List.getElem?_toArray, List.getElem?_cons_succ, List.getElem?_cons_zero, oI_some, oS_some, oM_some, oB_some, oP_some, oT_some, xIdx_some, Nat.zero_add, Nat.add_zero, Nat.mul_one]
  exact ⟨L, rfl, x⟩

/-- Entries in a row, new behind 'h'. -/
def EFresh (h h' : PH) (v : Value) (l : List En) : Prop := (l = [] ∧ v = .slice none 0 0 ∧ h' = h) ∨ ∃ b cap junk, v = .slice (some ⟨b, 0, none⟩) l.length cap ∧ h b = none ∧ h' = h.upd b (.cells (recArr enL l junk) 90 (0, 0))

theorem meets_gAll {h : PH} {G : GL} {g : Gs} (r : GRep h G g) (hb : g.entries.length ≤ 100000) : Meets Try.prog 41 #[gp G] h fun v h' => EFresh h h' v g.entries := by
  obtain ⟨c, base, cap, cl, ce⟩ := r.cl
  apply P_ghost_Log_All_of
  unfold P_ghost_Log_All
  refine (meets_gok r).look ?_
  simp only [oB_some]
  refine ⟨fun hx => (by cases hx), fun _ => ?_⟩
  simp only [xNn_some, add_mk, cell_mk, upd_at, del_at, if_true, if_false, Option.bind_some, List.getElem?_toArray, List.getElem?_cons_succ, List.getElem?_cons_zero, oI_some, oS_some, oM_some, oB_some, oP_some, oT_some, xIdx_some, Nat.zero_add, Nat.add_zero, Nat.mul_one, cl]
  rcases ce with ⟨h1, h2, rfl, rfl⟩ | ⟨eb, j, h1, rfl, h3, h4⟩
  · apply P_slices_Clone_ghost_Entry_ghost_Entry_of
    unfold P_slices_Clone_ghost_Entry_ghost_Entry
    refine ⟨fun _ => ?_, fun hx => (by cases hx)⟩
    simp only [xNn_some, add_mk, cell_mk, upd_at, del_at, if_true, if_false, Option.bind_some, List.getElem?_toArray, List.getElem?_cons_succ, List.getElem?_cons_zero, oI_some, oS_some, oM_some, oB_some, oP_some, oT_some, xIdx_some, Nat.zero_add, Nat.add_zero, Nat.mul_one]
    exact .inl ⟨h2, rfl, rfl⟩
  · apply P_slices_Clone_ghost_Entry_ghost_Entry_of
    unfold P_slices_Clone_ghost_Entry_ghost_Entry
    refine ⟨fun hx => (by cases hx), fun _ => ?_⟩
    intro b5 hb5
    have hne : eb ≠ b5 := ne_of_known h3 hb5
    have hlen := rec_len enLen g.entries
    refine ⟨(g.entries.map enL).flatten, g.entries.length, ⟨rfl, hlen, ?_⟩, ?_, by omega, [], [], rfl, PH.upd_same _ _ _, rfl, by simp, Nat.le_refl _, ?_⟩
    · intro i hi
      simp only [add_mk, cell_mk, upd_at, hne, if_false, h3, Option.bind_some, Nat.zero_add]
      simp only [recArr, List.getElem?_toArray]
      rw [List.getElem?_append_left (by omega)]
    · intro v hv
      simp only [List.mem_flatten, List.mem_map] at hv
      obtain ⟨_, ⟨m, _, rfl⟩, hv⟩ := hv
      simp only [enL, List.mem_cons, List.not_mem_nil, or_false] at hv
      rcases hv with rfl | rfl | rfl | rfl | rfl | rfl | rfl | rfl | rfl | rfl | rfl | rfl | rfl <;> rfl
    · intro b cap' junk hb hc hj
      rw [upd_del hb5] at hb ⊢
      simp only [Nat.zero_add, xNn_some, add_mk, cell_mk, upd_at, del_at, if_true, if_false, Option.bind_some, List.getElem?_toArray, List.getElem?_cons_succ, List.getElem?_cons_zero, oI_some, oS_some, oM_some, oB_some, oP_some, oT_some, xIdx_some, Nat.zero_add, Nat.add_zero, Nat.mul_one] at hj ⊢
      exact .inr ⟨b, cap', junk, rfl, hb, rfl⟩

end Go.Gh

/-
  An entry is added.
-/
set_option linter.unusedSimpArgs false
set_option linter.unusedVariables false
namespace Go.Gh
open Go Go.Sx Go.Md Go.Proofs Go.Proofs.Ytnnedfhpicdacaa

/-- What is left of an entry. -/
def Added (h : PH) (G : GL) (g : Gs) (e : En) (v : Value) (h' : PH) : Prop :=
  v = .int .i64 (g.code e) ∧ ∃ G', G'.l = G.l ∧ GRep h' G' (g.next e) ∧ Ext G.all h h' ∧ ∀ b ∈ G'.all, b ∈ G.all ∨ h b = none

theorem Added.no {h h' : PH} {G : GL} {g : Gs} {e : En} (t : g.turn e = none) (r : GRep h' G g) (x : Ext G.all h h') : Added h G g e (.int .i64 15) h' := by
  have ha : g.add e = none := by simp only [Gs.add, t]; rfl
  refine ⟨by simp only [Gs.code, ha]; rfl, G, rfl, ?_, x, fun b hb => .inl hb⟩
  rw [show g.next e = g from by simp only [Gs.next, ha]; rfl]
  exact r

theorem th_get {g : Gs} {t : Int} (h : t.toNat < g.threads.length) : g.threads[t.toNat]? = some (g.th t) := by
  simp [Gs.th, List.getD_eq_getElem?_getD, h]

/-- A store of a part of a thread. -/
theorem st_th {h : PH} {G : GL} {g : Gs} (r : GRep h G g) {t : Int} (ht : t.toNat < g.threads.length) (k : Nat) (vs : List Value) (x : Th) {n : Nat} {K : PH → Prop} (hn : vs.length = n) (hz : n ≠ 0) (h1 : ∀ v ∈ vs, oneCell v = true)
    (hm : setW (thL (g.th t)) k vs = thL x) (hk : k + vs.length ≤ 11) (kk : ∀ O, GRep (h.upd G.tb O) G (g.setTh t x) → K (h.upd G.tb O)) : xSt n h ⟨G.tb, t.toNat * 11 + k, none⟩ vs K := by
  obtain ⟨j, ct⟩ := r.ct
  refine xSt_mk ct hn hz h1 ?_ (kk _ ?_)
  · rw [rec_size thLen]; omega
  · rw [rec_set thLen (g.th t) x (th_get ht) k vs hm hk]
    exact r.setTh (by simp) j
theorem st_th0 {h : PH} {G : GL} {g : Gs} (r : GRep h G g) {t : Int} (ht : t.toNat < g.threads.length) (vs : List Value) (x : Th) {n : Nat} {K : PH → Prop} (hn : vs.length = n) (hz : n ≠ 0) (h1 : ∀ v ∈ vs, oneCell v = true)
    (hm : setW (thL (g.th t)) 0 vs = thL x) (hk : vs.length ≤ 11) (kk : ∀ O, GRep (h.upd G.tb O) G (g.setTh t x) → K (h.upd G.tb O)) : xSt n h ⟨G.tb, t.toNat * 11, none⟩ vs K := st_th r ht 0 vs x hn hz h1 hm (by omega) kk

theorem th_setTh {g : Gs} {t : Int} (h : t.toNat < g.threads.length) (x : Th) : (g.setTh t x).th t = x := by
  simp [Gs.th, Gs.setTh, List.getD_eq_getElem?_getD, h]
theorem setTh_setTh (g : Gs) (t : Int) (x y : Th) : (g.setTh t x).setTh t y = g.setTh t y := by simp [Gs.setTh]

/-- A thread's cells. -/
structure ThAt (A : Array Value) (n : Nat) (t : Th) : Prop where
  c0 : A[n * 11]? = some (.int .i64 t.op.kind)
  c1 : A[n * 11 + 1]? = some (.int .i64 t.op.obj)
  c2 : A[n * 11 + 2]? = some (.int .i64 t.op.arg)
  c3 : A[n * 11 + 3]? = some (.int .i64 t.calls)
  c4 : A[n * 11 + 4]? = some (.bool t.opn)
  c5 : A[n * 11 + 5]? = some (.int .i64 t.many)
  c6 : A[n * 11 + 6]? = some (.int .i64 t.last.kind)
  c7 : A[n * 11 + 7]? = some (.int .i64 t.last.thread)
  c8 : A[n * 11 + 8]? = some (.int .i64 t.last.obj)
  c9 : A[n * 11 + 9]? = some (.int .i64 t.last.arg)
  c10 : A[n * 11 + 10]? = some (.int .i64 t.last.err)
theorem thAt {g : Gs} {t : Int} (h : t.toNat < g.threads.length) (j : List Value) : ThAt (recArr thL g.threads j) t.toNat (g.th t) := by
  have q := fun k hk => rec_get thLen (junk := j) (g.th t) (th_get h) k hk
  exact ⟨q 0 (by omega), q 1 (by omega), q 2 (by omega), q 3 (by omega), q 4 (by omega), q 5 (by omega), q 6 (by omega), q 7 (by omega), q 8 (by omega), q 9 (by omega), q 10 (by omega)⟩

set_option maxHeartbeats 1000000 in
theorem meets_Add {h : PH} {G : GL} {g : Gs} (r : GRep h G g) (e : En) (hb : g.entries.length ≤ 100000) (few : g.model.waits.length ≤ 64) :
    Meets Try.prog 40 #[gp G, enV e] h (Added h G g e) := by
  apply P_ghost_Log_Add_of
  unfold P_ghost_Log_Add
  intro b nb
  have r1 := r.le (PH.le_upd (O := .cells #[.int .i64 e.kind, .int .i64 e.thread, .int .i64 e.number, .int .i64 e.op.kind, .int .i64 e.op.obj, .int .i64 e.op.arg, .int .i64 e.event.kind, .int .i64 e.event.thread, .int .i64 e.event.obj, .int .i64 e.event.arg, .int .i64 e.event.err, .int .i64 e.value, .int .i64 e.err] 90 (0, 0)) nb)
  have x1 : Ext G.all h _ := (Ext.refl G.all h).upd_new (O := .cells #[.int .i64 e.kind, .int .i64 e.thread, .int .i64 e.number, .int .i64 e.op.kind, .int .i64 e.op.obj, .int .i64 e.op.arg, .int .i64 e.event.kind, .int .i64 e.event.thread, .int .i64 e.event.obj, .int .i64 e.event.arg, .int .i64 e.event.err, .int .i64 e.value, .int .i64 e.err] 90 (0, 0)) nb
  have eb := PH.upd_same h b (.cells #[.int .i64 e.kind, .int .i64 e.thread, .int .i64 e.number, .int .i64 e.op.kind, .int .i64 e.op.obj, .int .i64 e.op.arg, .int .i64 e.event.kind, .int .i64 e.event.thread, .int .i64 e.event.obj, .int .i64 e.event.arg, .int .i64 e.event.err, .int .i64 e.value, .int .i64 e.err] 90 (0, 0))
  have off := r.off nb
  generalize h.upd b (.cells #[.int .i64 e.kind, .int .i64 e.thread, .int .i64 e.number, .int .i64 e.op.kind, .int .i64 e.op.obj, .int .i64 e.op.arg, .int .i64 e.event.kind, .int .i64 e.event.thread, .int .i64 e.event.obj, .int .i64 e.event.arg, .int .i64 e.event.err, .int .i64 e.value, .int .i64 e.err] 90 (0, 0)) = h1 at r1 x1 eb ⊢
  refine xBlk_split (fun h' => h' = h1 ∧ g.fits e = true) ?_ fun K hK => ?_
  rotate_left
  · -- it fits, or is refused
    obtain ⟨c, base, cap, cl, ce⟩ := r1.cl
    refine (meets_gok r1).look ?_
    simp only [oB_some]
    refine ⟨fun hx => (by cases hx), fun _ => ?_⟩
    refine xDraw_self ?_
    simp only [xNn_some, add_mk, cell_mk, upd_at, del_at, if_true, if_false, Option.bind_some, List.getElem?_toArray, List.getElem?_cons_succ, List.getElem?_cons_zero, oI_some, oS_some, oM_some, oB_some, oP_some, oT_some, xIdx_some, Nat.zero_add, Nat.add_zero, Nat.mul_one, eb, gp, cl]
    refine (meets_isBare e).look ?_
    simp only [xNn_some, add_mk, cell_mk, upd_at, del_at, if_true, if_false, Option.bind_some, List.getElem?_toArray, List.getElem?_cons_succ, List.getElem?_cons_zero, oI_some, oS_some, oM_some, oB_some, oP_some, oT_some, xIdx_some, Nat.zero_add, Nat.add_zero, Nat.mul_one, eb, cl]
    refine ⟨PH.le_refl _, ?_⟩
    refine xSc_or (decide (e.thread < 0)) (fun _ J hJ => hJ) ?_
    refine xSc_or (decide (e.thread ≥ (g.threads.length : Int))) (fun _ J hJ => hJ) ⟨fun hx => ?_, fun hx => ?_⟩
    · refine Added.no ?_ r1 x1
      have : g.fits e = false := by
        unfold Gs.fits
        revert hx
        generalize e.bare = x
        generalize decide (e.thread < 0) = y
        generalize decide (e.thread ≥ (g.threads.length : Int)) = z
        cases x <;> cases y <;> cases z <;> simp
      simp only [Gs.turn, this, if_true]
    · refine hK _ ⟨rfl, ?_⟩
      unfold Gs.fits
      revert hx
      generalize e.bare = x
      generalize decide (e.thread < 0) = y
      generalize decide (e.thread ≥ (g.threads.length : Int)) = z
      cases x <;> cases y <;> cases z <;> simp
  rintro h' ⟨rfl, hfit⟩
  have ht : 0 ≤ e.thread ∧ e.thread < (g.threads.length : Int) ∧ e.thread.toNat < g.threads.length := by
    have := hfit
    simp only [Gs.fits, Bool.and_eq_true, Bool.not_eq_true', decide_eq_false_iff_not] at this
    omega
  obtain ⟨ht0, ht1, ht2⟩ := ht
  obtain ⟨c, base, cap, cl, ce⟩ := r1.cl
  obtain ⟨j, ct⟩ := r1.ct
  have ta := thAt ht2 j
  refine xDraw_self ?_
  refine nn ?_
  refine rSa cl rfl ?_
  refine rIa eb rfl ?_
  refine xIdx_at ht0 ht1 ?_
  refine rIa eb rfl ?_
  refine xBlk_split (fun h2 => ∃ g', g.turn e = some g' ∧ g'.entries = g.entries ∧ GRep h2 G g' ∧ Ext G.all h h2 ∧ h2 b = some (.cells #[.int .i64 e.kind, .int .i64 e.thread, .int .i64 e.number, .int .i64 e.op.kind, .int .i64 e.op.obj, .int .i64 e.op.arg, .int .i64 e.event.kind, .int .i64 e.event.thread, .int .i64 e.event.obj, .int .i64 e.event.arg, .int .i64 e.event.err, .int .i64 e.value, .int .i64 e.err] 90 (0, 0))) ?_ fun K hK => ?_
  rotate_left
  · -- what it turns
    have q1 : G.tb ≠ b := off _ (tb_in G)
    refine ⟨fun hc => ?_, fun hc => ?_⟩
    · -- Call
      have hc := beq_iff_eq.1 hc
      refine xDraw_self ?_
      simp only [xNn_some, add_mk, cell_mk, upd_at, del_at, if_true, if_false, Option.bind_some, List.getElem?_toArray, List.getElem?_cons_succ, List.getElem?_cons_zero, oI_some, oS_some, oM_some, oB_some, oP_some, oT_some, xIdx_some, Nat.zero_add, Nat.add_zero, Nat.mul_one, eb, ct, ta.c4, ta.c3]
      refine xSc_or (e.number != (g.th e.thread).calls) (fun _ J hJ => hJ) ?_
      refine xSc_or (!mayOp g.objects g.threads.length e.op) (fun _ J hJ => ?_) ⟨fun hx => ?_, fun hx => ?_⟩
      · try simp only [xNn_some, add_mk, cell_mk, upd_at, del_at, if_true, if_false, Option.bind_some, List.getElem?_toArray, List.getElem?_cons_succ, List.getElem?_cons_zero, oI_some, oS_some, oM_some, oB_some, oP_some, oT_some, xIdx_some, Nat.zero_add, Nat.add_zero, Nat.mul_one, eb, ct, ta.c4, ta.c3]
        refine (meets_may cl e.op).look ?_
        simp only [xNn_some, add_mk, cell_mk, upd_at, del_at, if_true, if_false, Option.bind_some, List.getElem?_toArray, List.getElem?_cons_succ, List.getElem?_cons_zero, oI_some, oS_some, oM_some, oB_some, oP_some, oT_some, xIdx_some, Nat.zero_add, Nat.add_zero, Nat.mul_one]
        exact ⟨PH.le_refl _, hJ⟩
      · refine Added.no ?_ r1 x1
        unfold Gs.turn
        rw [if_neg (by simp [hfit]), if_pos hc, if_pos hx]
      · refine xDraw_self ?_
        try simp only [xNn_some, add_mk, cell_mk, upd_at, del_at, if_true, if_false, Option.bind_some, List.getElem?_toArray, List.getElem?_cons_succ, List.getElem?_cons_zero, oI_some, oS_some, oM_some, oB_some, oP_some, oT_some, xIdx_some, Nat.zero_add, Nat.add_zero, Nat.mul_one, eb, ct, ta.c4, ta.c3]
        refine st_th0 r1 ht2 _ ⟨e.op, IntKind.wrap .i64 ((g.th e.thread).calls + 1), true, 0, ev0⟩ rfl (by decide) (by simp [oneCell]) rfl (by simp) fun O r2 => ?_
        refine hK _ ⟨_, ?_, ?_, r2, x1.upd_in (tb_in G), (PH.upd_ne _ _ (Ne.symm q1)).trans eb⟩
        rotate_left
        · rfl
        unfold Gs.turn
        rw [if_neg (by simp [hfit]), if_pos hc, if_neg (by simp [hx])]
    have hk1 : e.kind ≠ 1 := by simpa using hc
    refine ⟨fun hc => ?_, fun hc => ?_⟩
    · -- Commit
      have hc := beq_iff_eq.1 hc
      have q2 : ∀ x ∈ G.M.all, x ≠ b := fun x hx => off x (M_in G x hx)
      have bM : b ∉ G.M.all := fun hm => q2 b hm rfl
      have lM : G.l ∉ G.M.all := fun hm => (r1.lM _ hm).1 rfl
      have tM : G.tb ∉ G.M.all := fun hm => (r1.lM _ hm).2 rfl
      refine xDraw_cut G.M.all ?_
      simp only [xNn_some, add_mk, cell_mk, upd_at, del_at, if_true, if_false, Option.bind_some, List.getElem?_toArray, List.getElem?_cons_succ, List.getElem?_cons_zero, oI_some, oS_some, oM_some, oB_some, oP_some, oT_some, xIdx_some, Nat.zero_add, Nat.add_zero, Nat.mul_one, PH.cut_at bM, PH.cut_at lM, PH.cut_at tM, eb, ct, cl, ta.c0, ta.c1, ta.c2, ta.c3, ta.c4, ta.c5, ta.c6, ta.c7, ta.c8, ta.c9, ta.c10]
      refine (meets_takes (g.th e.thread) e.event).look ?_
      simp only [oB_some]
      refine ⟨PH.cut_le _ _, fun hx => ?_, fun hx => ?_⟩
      · -- it may come
        simp only [xNn_some, add_mk, cell_mk, upd_at, del_at, if_true, if_false, Option.bind_some, List.getElem?_toArray, List.getElem?_cons_succ, List.getElem?_cons_zero, oI_some, oS_some, oM_some, oB_some, oP_some, oT_some, xIdx_some, Nat.zero_add, Nat.add_zero, Nat.mul_one, PH.cut_at bM, PH.cut_at lM, PH.cut_at tM, eb, ct, cl]
        refine (meets_Apply r1.cm e.event few).mono ?_
        rintro _ h2 ⟨rfl, rm, xm⟩
        simp only [oI_some]
        refine ⟨PH.cut_ext xm, fun hy => ?_, fun hy => ?_⟩
        · refine Added.no ?_ ?_ (x1.trans' (xm.mono (M_in G)))
          · unfold Gs.turn
            rw [if_neg (by simp [hfit]), if_neg hk1, if_pos hc, if_pos (by rw [hy]; simp)]
          · have r2 := r1.setM rm xm
            have : g.model.next e.event = g.model := by
              unfold Ms.code at hy
              unfold Ms.next
              cases hs : g.model.step e.event with
              | none => rfl
              | some m => rw [hs] at hy; simp at hy
            rw [this] at r2
            exact r2
        · have r2 := r1.setM rm xm
          have e2 : h2 b = some (.cells #[.int .i64 e.kind, .int .i64 e.thread, .int .i64 e.number, .int .i64 e.op.kind, .int .i64 e.op.obj, .int .i64 e.op.arg, .int .i64 e.event.kind, .int .i64 e.event.thread, .int .i64 e.event.obj, .int .i64 e.event.arg, .int .i64 e.event.err, .int .i64 e.value, .int .i64 e.err] 90 (0, 0)) := xm _ _ eb bM
          obtain ⟨j2, ct2⟩ := r2.ct
          have ta2 := thAt (g := { g with model := g.model.next e.event }) ht2 j2
          simp only [xNn_some, add_mk, cell_mk, upd_at, del_at, if_true, if_false, Option.bind_some, List.getElem?_toArray, List.getElem?_cons_succ, List.getElem?_cons_zero, oI_some, oS_some, oM_some, oB_some, oP_some, oT_some, xIdx_some, Nat.zero_add, Nat.add_zero, Nat.mul_one, ct2, ta2.c5]
          refine st_th r2 ht2 5 _ { g.th e.thread with many := IntKind.wrap .i64 ((g.th e.thread).many + 1) } rfl (by decide) (by simp [oneCell]) rfl (by simp) fun O r3 => ?_
          have e3 := (PH.upd_ne h2 O (Ne.symm q1)).trans e2
          simp only [xNn_some, add_mk, cell_mk, upd_at, del_at, if_true, if_false, Option.bind_some, List.getElem?_toArray, List.getElem?_cons_succ, List.getElem?_cons_zero, oI_some, oS_some, oM_some, oB_some, oP_some, oT_some, xIdx_some, Nat.zero_add, Nat.add_zero, Nat.mul_one, Ne.symm q1, e2]
          have ht3 : e.thread.toNat < ({ g with model := g.model.next e.event }.setTh e.thread { g.th e.thread with many := IntKind.wrap .i64 ((g.th e.thread).many + 1) }).threads.length := by simpa [Gs.setTh] using ht2
          refine st_th r3 ht3 6 _ { g.th e.thread with many := IntKind.wrap .i64 ((g.th e.thread).many + 1), last := e.event } rfl (by decide) (by simp [oneCell]) (by rw [th_setTh (g := { g with model := g.model.next e.event }) ht2]; rfl) (by simp) fun O r4 => ?_
          rw [setTh_setTh] at r4
          refine hK _ ⟨_, ?_, ?_, r4, ((x1.trans' (xm.mono (M_in G))).upd_in (tb_in G)).upd_in (tb_in G), (PH.upd_ne _ _ (Ne.symm q1)).trans e3⟩
          · unfold Gs.turn
            rw [if_neg (by simp [hfit]), if_neg hk1, if_pos hc, if_neg (by rw [hy]; revert hx; cases (g.th e.thread).takes e.event <;> simp)]
            rfl
          · rfl
      · refine ⟨fun _ => ?_, fun hy => ?_⟩
        · refine Added.no ?_ r1 x1
          unfold Gs.turn
          rw [if_neg (by simp [hfit]), if_neg hk1, if_pos hc, if_pos (by rw [show (!(g.th e.thread).takes e.event) = true from hx]; simp)]
        · rw [show (!(g.th e.thread).takes e.event) = true from hx] at hy; cases hy
    have hk2 : e.kind ≠ 2 := by simpa using hc
    refine ⟨fun hc => ?_, fun hc => ?_⟩
    · -- Return
      have hc := beq_iff_eq.1 hc
      simp only [xNn_some, add_mk, cell_mk, upd_at, del_at, if_true, if_false, Option.bind_some, List.getElem?_toArray, List.getElem?_cons_succ, List.getElem?_cons_zero, oI_some, oS_some, oM_some, oB_some, oP_some, oT_some, xIdx_some, Nat.zero_add, Nat.add_zero, Nat.mul_one, eb, ct, ta.c0, ta.c1, ta.c2, ta.c3, ta.c4, ta.c5, ta.c6, ta.c7, ta.c8, ta.c9, ta.c10]
      refine (meets_told (g.th e.thread)).look ?_
      simp only [toldV, oTup_mk, oIx_some, xNn_some, add_mk, cell_mk, upd_at, del_at, if_true, if_false, Option.bind_some, List.getElem?_toArray, List.getElem?_cons_succ, List.getElem?_cons_zero, oI_some, oS_some, oM_some, oB_some, oP_some, oT_some, xIdx_some, Nat.zero_add, Nat.add_zero, Nat.mul_one]
      refine ⟨rfl, ?_⟩
      refine xDraw_self ?_
      simp only [xNn_some, add_mk, cell_mk, upd_at, del_at, if_true, if_false, Option.bind_some, List.getElem?_toArray, List.getElem?_cons_succ, List.getElem?_cons_zero, oI_some, oS_some, oM_some, oB_some, oP_some, oT_some, xIdx_some, Nat.zero_add, Nat.add_zero, Nat.mul_one, eb, ct, ta.c3]
      refine xSc_or (e.number != IntKind.wrap .i64 ((g.th e.thread).calls - 1)) (fun _ J hJ => hJ) ?_
      refine xSc_or (e.value != (g.th e.thread).told.1) (fun _ J hJ => hJ) ?_
      refine xSc_or (e.err != (g.th e.thread).told.2.1) (fun _ J hJ => hJ) ⟨fun hx => ?_, fun hx => ?_⟩
      · refine Added.no ?_ r1 x1
        unfold Gs.turn
        rw [if_neg (by simp [hfit]), if_neg hk1, if_neg hk2, if_pos hc, if_pos hx]
      · try simp only [xNn_some, add_mk, cell_mk, upd_at, del_at, if_true, if_false, Option.bind_some, List.getElem?_toArray, List.getElem?_cons_succ, List.getElem?_cons_zero, oI_some, oS_some, oM_some, oB_some, oP_some, oT_some, xIdx_some, Nat.zero_add, Nat.add_zero, Nat.mul_one, eb, ct, ta.c3]
        refine st_th0 r1 ht2 _ ⟨op0, (g.th e.thread).calls, false, 0, ev0⟩ rfl (by decide) (by simp [oneCell]) rfl (by simp) fun O r2 => ?_
        refine hK _ ⟨_, ?_, ?_, r2, x1.upd_in (tb_in G), (PH.upd_ne _ _ (Ne.symm q1)).trans eb⟩
        rotate_left
        · rfl
        unfold Gs.turn
        rw [if_neg (by simp [hfit]), if_neg hk1, if_neg hk2, if_pos hc, if_neg (by simp [hx])]
    · have hk3 : e.kind ≠ 3 := by simpa using hc
      exfalso
      have : e.bare = true := by simp only [Gs.fits, Bool.and_eq_true] at hfit; exact hfit.1.1
      unfold En.bare at this
      rw [if_neg hk1, if_neg hk2, if_neg hk3] at this
      cases this
  -- it is laid behind the others
  clear ct ta cl ce r1 x1 eb
  rintro h2 ⟨g', htn, hen, r2, x2, e2⟩
  obtain ⟨c, base, cap, cl, ce⟩ := r2.cl
  have hadd : g.add e = some { g' with entries := g'.entries ++ [e] } := by simp only [Gs.add, htn]; rfl
  have hcode : g.code e = 0 := by simp only [Gs.code, hadd]; rfl
  have hnext : g.next e = { g' with entries := g'.entries ++ [e] } := by simp only [Gs.next, hadd]; rfl
  have known : ∀ x ∈ G.all, h2 x ≠ none := fun x hx n => by obtain ⟨O, hO⟩ := r2.known x hx; rw [n] at hO; cases hO
  have hlen : g'.entries.length ≤ 100000 := by rw [hen]; exact hb
  have qM := r2.lM
  have qE := r2.lE
  have qn := r2.nd
  have qlt := r2.ltb
  have bl : b ≠ G.l := fun e => off _ (l_in G) e.symm
  -- what is known behind the store
  have fin : ∀ (h3 : PH) (eb' : Nat) (cap' : Nat) (junk : List Value), (∀ x ∈ G.all, G.eb ≠ some x → h3 x = h2 x) → Ext G.all h h3 → (eb' ∈ G.all → G.eb = some eb') → (eb' ∉ G.all → h eb' = none) → eb' ≠ b →
      h3 eb' = some (.cells (recArr enL (g'.entries ++ [e]) junk) 90 (0, 0)) → junk.length = (cap' - (g'.entries.length + 1)) * 13 → g'.entries.length + 1 ≤ cap' →
      xSt 1 h3 ⟨G.l, 3, none⟩ [.slice (some ⟨eb', 0, none⟩) (g'.entries.length + 1) cap'] (fun h' => Added h G g e (.int .i64 0) h') := by
    intro h3 eb' cap' junk same x3 hin hout hne h3e hj hc
    have nl : G.eb ≠ some G.l := fun e => (qE _ e).1 rfl
    have nt : G.eb ≠ some G.tb := fun e => (qE _ e).2.1 rfl
    have nM : ∀ x ∈ G.M.all, G.eb ≠ some x := fun x hx e => (qE _ e).2.2 hx
    have el : eb' ≠ G.l := fun e => nl (e ▸ hin (e ▸ l_in G))
    have et : eb' ≠ G.tb := fun e => nt (e ▸ hin (e ▸ tb_in G))
    have eM : eb' ∉ G.M.all := fun hm => nM _ hm (hin (M_in G _ hm))
    refine xSt_mk ((same _ (l_in G) nl).trans cl) rfl (by decide) (by simp [oneCell]) (by simp) ?_
    refine ⟨by rw [hcode], { G with eb := some eb' }, rfl, ?_, x3.upd_in (l_in G), ?_⟩
    · rw [hnext]
      obtain ⟨j2, ct2⟩ := r2.ct
      refine ⟨?_, r2.nt, ⟨c, some ⟨eb', 0, none⟩, cap', ?_, .inr ⟨eb', junk, rfl, rfl, ?_, ?_, ?_⟩⟩, ⟨j2, ?_⟩, ?_⟩
      · simp only [GL.all, List.nodup_cons, List.mem_cons, List.mem_append, not_or, List.nodup_append, Option.toList, List.not_mem_nil, or_false, not_false_eq_true, List.nodup_nil, true_and] at qn ⊢
        refine ⟨⟨qn.1.1, qn.1.2.1, el.symm⟩, ⟨qn.2.1.1, et.symm⟩, qn.2.2.1, ?_⟩
        rintro a ha x rfl
        exact fun e => eM (e ▸ ha)
      · rw [PH.upd_same]; simp [setN]
      · rw [PH.upd_ne _ _ el]; exact h3e
      · rw [List.length_append]; exact hj
      · rw [List.length_append]; exact hc
      · rw [PH.upd_ne _ _ (Ne.symm qlt)]; exact (same _ (tb_in G) nt).trans ct2
      · exact r2.cm.of fun x hx => (PH.upd_ne _ _ (qM x hx).1).trans (same _ (M_in G x hx) (nM x hx))
    · intro x hx
      simp only [GL.all, List.mem_cons, List.mem_append, Option.toList, List.not_mem_nil, or_false] at hx
      rcases hx with rfl | rfl | hx | rfl
      · exact .inl (l_in G)
      · exact .inl (tb_in G)
      · exact .inl (M_in G _ hx)
      · by_cases hm : x ∈ G.all
        · exact .inl hm
        · exact .inr (hout hm)
  refine xDraw_cut G.eb.toList ?_
  have lE : G.l ∉ G.eb.toList := by
    intro hm
    cases hE : G.eb with
    | none => rw [hE] at hm; simp at hm
    | some x => rw [hE] at hm; simp at hm; exact (qE _ hE).1 hm.symm
  have bE : b ∉ G.eb.toList := by
    intro hm
    exact off b (by simp [GL.all, hm]) rfl
  simp only [xNn_some, add_mk, cell_mk, upd_at, del_at, if_true, if_false, Option.bind_some, List.getElem?_toArray, List.getElem?_cons_succ, List.getElem?_cons_zero, oI_some, oS_some, oM_some, oB_some, oP_some, oT_some, xIdx_some, Nat.zero_add, Nat.add_zero, Nat.mul_one, PH.cut_at lE, PH.cut_at bE, cl, e2]
  intro bb nbb
  have hbb : bb ≠ b := fun e => by subst e; rw [e2] at nbb; cases nbb
  refine ⟨PH.le_trans (PH.cut_le _ _) (PH.le_upd nbb), ?_⟩
  have src : srcCells (h2.upd bb (.cells #[.int .i64 e.kind, .int .i64 e.thread, .int .i64 e.number, .int .i64 e.op.kind, .int .i64 e.op.obj, .int .i64 e.op.arg, .int .i64 e.event.kind, .int .i64 e.event.thread, .int .i64 e.event.obj, .int .i64 e.event.arg, .int .i64 e.event.err, .int .i64 e.value, .int .i64 e.err] 90 (0, 0))) 13 (.slice (some ⟨bb, 0, none⟩) 1 1) (enL e) 1 := by
    refine ⟨rfl, rfl, fun i hi => ?_⟩
    simp only [add_mk, cell_mk, upd_at, if_true, Option.bind_some, Nat.zero_add, List.getElem?_toArray]
    rfl
  have inbb : bb ∉ G.all := fun hm => known bb hm nbb
  have xbb : Ext G.all h (h2.upd bb (.cells #[.int .i64 e.kind, .int .i64 e.thread, .int .i64 e.number, .int .i64 e.op.kind, .int .i64 e.op.obj, .int .i64 e.op.arg, .int .i64 e.event.kind, .int .i64 e.event.thread, .int .i64 e.event.obj, .int .i64 e.event.arg, .int .i64 e.event.err, .int .i64 e.value, .int .i64 e.err] 90 (0, 0))) := by
    intro x O hx hm
    have := x2 x O hx hm
    rw [PH.upd_ne _ _ (ne_of_known this nbb)]; exact this
  have hnone : ∀ x, h2 x = none → x ∉ G.all → h x = none := by
    intro x n hm
    cases hg : h x with
    | none => rfl
    | some O => rw [x2 x O hg hm] at n; cases n
  refine ⟨_, 1, src, by simp [enL, oneCell], by omega, ?_⟩
  rcases ce with ⟨h1, h2', rfl, rfl⟩ | ⟨eb0, j0, h1, rfl, h3, h4, h5⟩
  · rw [h2'] at fin ⊢
    refine ⟨rfl, rfl, fun hx => (by cases hx), fun _ eb' cap' junk nb' hc' hj => ?_⟩
    obtain ⟨g1, nb'⟩ := upd_none nb'
    have hm' : eb' ∉ G.all := fun hm => known _ hm nb'
    refine ⟨?_, ?_⟩
    · rw [h1]
      exact PH.le_trans (PH.cut_le _ _) (upd_le_upd nb' (PH.le_upd nbb))
    · try simp only [xNn_some, add_mk, cell_mk, upd_at, del_at, if_true, if_false, Option.bind_some, List.getElem?_toArray, List.getElem?_cons_succ, List.getElem?_cons_zero, oI_some, oS_some, oM_some, oB_some, oP_some, oT_some, xIdx_some, Nat.zero_add, Nat.add_zero, Nat.mul_one]
      refine fin _ eb' cap' junk ?_ ?_ (fun hm => absurd hm hm') (fun hm => hnone _ nb' hm) ?_ ?_ (by simpa using hj) (by simpa using hc')
      · intro x hx _
        have q1 : x ≠ eb' := fun e => hm' (e ▸ hx)
        have q2 : x ≠ bb := fun e => inbb (e ▸ hx)
        simp only [upd_at, q1, q2, if_false]
      · exact xbb.upd_new (hnone _ nb' hm')
      · intro e; subst e; rw [e2] at nb'; cases nb'
      · rw [PH.upd_same]; simp [recArr]
  · have inE : eb0 ∈ G.all := by simp [GL.all, h1]
    have e0b : eb0 ≠ bb := fun e => inbb (e ▸ inE)
    refine ⟨(g'.entries.map enL).flatten, j0, rfl, ?_, rec_len enLen _, h4, h5, fun eb' cap' junk nb' hc' hj => ?_⟩
    · rw [PH.upd_ne _ _ e0b]; exact h3
    · have key : eb' = eb0 ∨ (eb' ≠ eb0 ∧ eb' ∉ G.all ∧ h2 eb' = none) := by
        by_cases hx : eb' = eb0
        · exact .inl hx
        · rw [del_at, if_neg hx] at nb'
          have n2 := (upd_none nb').2
          exact .inr ⟨hx, fun hm => known _ hm n2, n2⟩
      have ledel : (h2.cut G.eb.toList).le ((h2.upd bb (.cells #[.int .i64 e.kind, .int .i64 e.thread, .int .i64 e.number, .int .i64 e.op.kind, .int .i64 e.op.obj, .int .i64 e.op.arg, .int .i64 e.event.kind, .int .i64 e.event.thread, .int .i64 e.event.obj, .int .i64 e.event.arg, .int .i64 e.event.err, .int .i64 e.value, .int .i64 e.err] 90 (0, 0))).del eb0) := by
        intro x O hx
        have xe : x ≠ eb0 := fun e => by subst e; rw [h1] at hx; simp [PH.cut] at hx
        rw [del_at, if_neg xe]
        exact PH.le_trans (PH.cut_le _ _) (PH.le_upd nbb) x O hx
      have cute : (h2.cut G.eb.toList) eb' = none := by
        rcases key with rfl | ⟨_, _, n⟩
        · rw [h1]; simp [PH.cut]
        · exact none_of (PH.cut_le _ _) n
      refine ⟨upd_le_upd cute ledel, ?_⟩
      try simp only [xNn_some, add_mk, cell_mk, upd_at, del_at, if_true, if_false, Option.bind_some, List.getElem?_toArray, List.getElem?_cons_succ, List.getElem?_cons_zero, oI_some, oS_some, oM_some, oB_some, oP_some, oT_some, xIdx_some, Nat.zero_add, Nat.add_zero, Nat.mul_one]
      refine fin _ eb' cap' junk ?_ ?_ ?_ ?_ ?_ ?_ hj hc'
      · intro x hx he
        have q0 : x ≠ eb0 := fun e => he (e ▸ h1)
        have q1 : x ≠ eb' := by
          rcases key with rfl | ⟨_, hm, _⟩
          · exact q0
          · exact fun e => hm (e ▸ hx)
        have q2 : x ≠ bb := fun e => inbb (e ▸ hx)
        simp only [upd_at, del_at, q0, q1, q2, if_false]
      · intro x O hx hm
        have q0 : x ≠ eb0 := fun e => hm (e ▸ inE)
        have q1 : x ≠ eb' := by
          rcases key with rfl | ⟨_, _, n⟩
          · exact q0
          · intro e; subst e
            rw [x2 x O hx hm] at n; cases n
        rw [PH.upd_ne _ _ q1, del_at, if_neg q0]
        exact xbb x O hx hm
      · intro hm
        rcases key with rfl | ⟨_, hm', _⟩
        · exact h1
        · exact absurd hm hm'
      · intro hm
        rcases key with rfl | ⟨_, _, n⟩
        · exact absurd inE hm
        · exact hnone _ n hm
      · rcases key with rfl | ⟨_, _, n⟩
        · exact off _ inE
        · intro e; subst e; rw [e2] at n; cases n
      · rw [PH.upd_same, rec_snoc]

end Go.Gh

/-
  A log that nobody made; what is told may be written over.
-/
set_option linter.unusedSimpArgs false
set_option linter.unusedVariables false
namespace Go.Gh
open Go Go.Sx Go.Md Go.Proofs Go.Proofs.Ytnnedfhpicdacaa

/-- A log of one's own: 'h0' is what was known at first. -/
def GOwn (h0 h : PH) (p : Value) (g : Gs) : Prop := ∃ G, p = gp G ∧ GRep h G g ∧ h0.le h ∧ ∀ b ∈ G.all, h0 b = none

theorem GOwn.of_fresh {h0 h h' : PH} {v : Value} {g : Gs} (l : h0.le h) (f : GFresh h h' v g) : GOwn h0 h' v g := by
  obtain ⟨G, e, r, l', n⟩ := f
  exact ⟨G, e, r, PH.le_trans l l', fun b hb => none_of l (n b hb)⟩
theorem GOwn.add {h0 h : PH} {p : Value} {g : Gs} (o : GOwn h0 h p g) (e : En) (hb : g.entries.length ≤ 100000) (few : g.model.waits.length ≤ 64) :
    Meets Try.prog 40 #[p, enV e] h fun v h' => v = .int .i64 (g.code e) ∧ GOwn h0 h' p (g.next e) := by
  obtain ⟨G, rfl, r, l, n⟩ := o
  refine (meets_Add r e hb few).mono ?_
  rintro v h' ⟨rfl, G', el, r', x, nn⟩
  refine ⟨rfl, G', by simp only [gp, el], r', fun b O hO => x b O (l b O hO) (fun hm => by rw [n b hm] at hO; cases hO), fun b hb => ?_⟩
  rcases nn b hb with hm | hm
  · exact n b hm
  · exact none_of l hm
theorem GOwn.le {h0 h h' : PH} {p : Value} {g : Gs} (o : GOwn h0 h p g) (l : h.le h') : GOwn h0 h' p g := by
  obtain ⟨G, e, r, l', n⟩ := o
  exact ⟨G, e, r.le l, PH.le_trans l' l, n⟩
theorem GOwn.base {h0 h : PH} {p : Value} {g : Gs} (o : GOwn h0 h p g) : h0.le h := o.choose_spec.2.2.1
/-- What is known besides, and is none of the log's, is left alone. -/
theorem GOwn.len {h0 h : PH} {p : Value} {g : Gs} (o : GOwn h0 h p g) : Meets Try.prog 43 #[p] h fun v h' => v = .int .i64 g.entries.length ∧ h' = h := by
  obtain ⟨G, rfl, r, _⟩ := o
  exact meets_gLen r

theorem pointer_of {h0 h : PH} {p : Value} {g : Gs} (o : GOwn h0 h p g) : ∃ a, p = .pointer (some a) := by
  obtain ⟨G, rfl, _⟩ := o; exact ⟨_, rfl⟩

def callE (k : Int) : En := ⟨1, 0, 0, ⟨k, 0, 0⟩, ev0, 0, 0⟩
def retE : En := ⟨3, 0, 0, op0, ev0, 0, 9⟩
def comE : En := ⟨2, 0, 0, op0, ⟨3, 0, 0, 0, 9⟩, 0, 0⟩

theorem meets_alive15 {h : PH} : Meets Try.prog 38 #[] h fun v h' => v = .bool true ∧ h' = h := by
  apply Meets.same
  apply P_law15_alive_of
  unfold P_law15_alive
  refine (meets_gNew 2 1 3 (by decide)).mono ?_
  rintro _ h1 ⟨w, rfl, f⟩
  have o := GOwn.of_fresh (PH.le_refl h) f
  obtain ⟨a, rfl⟩ := pointer_of o
  clear f
  simp only [oTup_mk, oIx_some, xNn_some, add_mk, cell_mk, upd_at, del_at, if_true, if_false, Option.bind_some, List.getElem?_toArray, List.getElem?_cons_succ, List.getElem?_cons_zero, oI_some, oS_some, oM_some, oB_some, oP_some, oT_some, xIdx_some, Nat.zero_add, Nat.add_zero, Nat.mul_one]
  refine ⟨rfl, xSc_or false (fun _ J hJ => hJ) ⟨fun hx => (by cases hx), fun _ => ?_⟩⟩
  refine (o.add (callE 3) (by decide) (of_decide_eq_true (by kernel_rfl))).mono ?_
  rintro _ h2 ⟨rfl, o⟩
  simp only [oI_some]
  refine (o.add retE (by decide) (of_decide_eq_true (by kernel_rfl))).mono ?_
  rintro _ h3 ⟨rfl, o⟩
  simp only [oI_some]
  refine (o.add comE (by decide) (of_decide_eq_true (by kernel_rfl))).mono ?_
  rintro _ h4 ⟨rfl, o⟩
  simp only [oI_some]
  refine (o.add retE (by decide) (of_decide_eq_true (by kernel_rfl))).mono ?_
  rintro _ h5 ⟨rfl, o⟩
  simp only [oI_some]
  have k1 : (Gs.new 2 1 3).code (callE 3) = 0 := by kernel_rfl
  have k2 : ((Gs.new 2 1 3).next (callE 3)).code retE = 15 := by kernel_rfl
  have k3 : (((Gs.new 2 1 3).next (callE 3)).next retE).code comE = 0 := by kernel_rfl
  have k4 : ((((Gs.new 2 1 3).next (callE 3)).next retE).next comE).code retE = 0 := by kernel_rfl
  have k5 : ((((((Gs.new 2 1 3).next (callE 3)).next retE).next comE).next retE).entries.length : Int) = 3 := by kernel_rfl
  rw [k1, k2, k3, k4]
  refine xSc_and true (fun _ J hJ => hJ) ?_
  refine xSc_and true (fun _ J hJ => hJ) ?_
  refine xSc_and true (fun _ J hJ => hJ) ?_
  refine xSc_and true (fun _ J hJ => ?_) ⟨rfl, o.base⟩
  refine o.len.look ?_
  simp only [oI_some]
  rw [k5]
  exact hJ

theorem meets_theirs15 {h : PH} (e : En) : Meets Try.prog 35 #[enV e] h fun v h' => v = enV e ∧ h' = h := by
  apply Meets.same
  apply P_law15_theirs_of
  unfold P_law15_theirs
  intro b nb
  have l : h.le _ := PH.le_upd (O := .cells #[.int .i64 e.kind, .int .i64 e.thread, .int .i64 e.number, .int .i64 e.op.kind, .int .i64 e.op.obj, .int .i64 e.op.arg, .int .i64 e.event.kind, .int .i64 e.event.thread, .int .i64 e.event.obj, .int .i64 e.event.arg, .int .i64 e.event.err, .int .i64 e.value, .int .i64 e.err] 88 (0, 0)) nb
  have eb := PH.upd_same h b (.cells #[.int .i64 e.kind, .int .i64 e.thread, .int .i64 e.number, .int .i64 e.op.kind, .int .i64 e.op.obj, .int .i64 e.op.arg, .int .i64 e.event.kind, .int .i64 e.event.thread, .int .i64 e.event.obj, .int .i64 e.event.arg, .int .i64 e.event.err, .int .i64 e.value, .int .i64 e.err] 88 (0, 0))
  generalize h.upd b (.cells #[.int .i64 e.kind, .int .i64 e.thread, .int .i64 e.number, .int .i64 e.op.kind, .int .i64 e.op.obj, .int .i64 e.op.arg, .int .i64 e.event.kind, .int .i64 e.event.thread, .int .i64 e.event.obj, .int .i64 e.event.arg, .int .i64 e.event.err, .int .i64 e.value, .int .i64 e.err] 88 (0, 0)) = h1 at l eb ⊢
  intro b2 nb2
  have q1 : b ≠ b2 := ne_of_known eb nb2
  simp only [xNn_some, add_mk, cell_mk, upd_at, del_at, if_true, if_false, Option.bind_some, List.getElem?_toArray, List.getElem?_cons_succ, List.getElem?_cons_zero, oI_some, oS_some, oM_some, oB_some, oP_some, oT_some, xIdx_some, Nat.zero_add, Nat.add_zero, Nat.mul_one, q1, eb]
  intro b3 nb3
  obtain ⟨q2, nb3⟩ := upd_none nb3
  have q3 : b ≠ b3 := ne_of_known eb nb3
  refine xSt_mk (PH.upd_same _ _ _) rfl (by decide) (by simp [oneCell]) (by simp) ?_
  rw [PH.upd_upd, setN5]
  simp only [xNn_some, add_mk, cell_mk, upd_at, del_at, if_true, if_false, Option.bind_some, List.getElem?_toArray, List.getElem?_cons_succ, List.getElem?_cons_zero, oI_some, oS_some, oM_some, oB_some, oP_some, oT_some, xIdx_some, Nat.zero_add, Nat.add_zero, Nat.mul_one, q1, q3, eb]
  refine xSt_mk ((PH.upd_ne _ _ q2).trans (PH.upd_same _ _ _)) rfl (by decide) (by simp [oneCell]) (by simp) ?_
  simp only [xNn_some, add_mk, cell_mk, upd_at, del_at, if_true, if_false, Option.bind_some, List.getElem?_toArray, List.getElem?_cons_succ, List.getElem?_cons_zero, oI_some, oS_some, oM_some, oB_some, oP_some, oT_some, xIdx_some, Nat.zero_add, Nat.add_zero, Nat.mul_one, setN, List.setIfInBounds_toArray, List.set_cons_zero, List.set_cons_succ]
  exact ⟨rfl, upd_le_upd (none_of l nb2) (PH.le_trans l (upd_le_upd nb3 (PH.le_upd nb2)))⟩

/-- The statement's own walk. -/
theorem meets_GhostNobody {h : PH} (e : En) : Meets Try.prog 10 #[enV e] h fun v h' => v = .bool true ∧ h' = h := by
  apply Meets.same
  apply P_law15_GhostNobody_of
  unfold P_law15_GhostNobody
  intro b nb
  have l : h.le _ := PH.le_upd (O := .cells #[.int .i64 e.kind, .int .i64 e.thread, .int .i64 e.number, .int .i64 e.op.kind, .int .i64 e.op.obj, .int .i64 e.op.arg, .int .i64 e.event.kind, .int .i64 e.event.thread, .int .i64 e.event.obj, .int .i64 e.event.arg, .int .i64 e.event.err, .int .i64 e.value, .int .i64 e.err] 88 (0, 0)) nb
  have eb := PH.upd_same h b (.cells #[.int .i64 e.kind, .int .i64 e.thread, .int .i64 e.number, .int .i64 e.op.kind, .int .i64 e.op.obj, .int .i64 e.op.arg, .int .i64 e.event.kind, .int .i64 e.event.thread, .int .i64 e.event.obj, .int .i64 e.event.arg, .int .i64 e.event.err, .int .i64 e.value, .int .i64 e.err] 88 (0, 0))
  generalize h.upd b (.cells #[.int .i64 e.kind, .int .i64 e.thread, .int .i64 e.number, .int .i64 e.op.kind, .int .i64 e.op.obj, .int .i64 e.op.arg, .int .i64 e.event.kind, .int .i64 e.event.thread, .int .i64 e.event.obj, .int .i64 e.event.arg, .int .i64 e.event.err, .int .i64 e.value, .int .i64 e.err] 88 (0, 0)) = h1 at l eb ⊢
  intro b12 n12
  intro b13 n13
  obtain ⟨q1, n13⟩ := upd_none n13
  have l3 : h1.le _ := upd_le_upd n13 (O := .cells #[.pointer none, .pointer (some ⟨b12, 0, none⟩)] 99 (0, 0)) (PH.le_upd (O := .cells #[.int .i64 0, .pointer none, .slice none 0 0, .slice none 0 0] 109 (0, 0)) n12)
  have e12 : ((h1.upd b12 (.cells #[.int .i64 0, .pointer none, .slice none 0 0, .slice none 0 0] 109 (0, 0))).upd b13 (.cells #[.pointer none, .pointer (some ⟨b12, 0, none⟩)] 99 (0, 0))) b12 = some (.cells #[.int .i64 0, .pointer none, .slice none 0 0, .slice none 0 0] 109 (0, 0)) := by simp only [upd_at, q1, if_false, if_true]
  have e13 : ((h1.upd b12 (.cells #[.int .i64 0, .pointer none, .slice none 0 0, .slice none 0 0] 109 (0, 0))).upd b13 (.cells #[.pointer none, .pointer (some ⟨b12, 0, none⟩)] 99 (0, 0))) b13 = some (.cells #[.pointer none, .pointer (some ⟨b12, 0, none⟩)] 99 (0, 0)) := PH.upd_same _ _ _
  generalize ((h1.upd b12 (.cells #[.int .i64 0, .pointer none, .slice none 0 0, .slice none 0 0] 109 (0, 0))).upd b13 (.cells #[.pointer none, .pointer (some ⟨b12, 0, none⟩)] 99 (0, 0))) = h3 at l3 e12 e13 ⊢
  have e1 := l3 _ _ eb
  have le0 := PH.le_trans l l3
  clear l l3 eb n12 n13 nb q1
  refine xBlk_split (fun h' => h3.le h') ?_ fun K hK => ?_
  rotate_left
  · -- nobody's logs
    refine xLoop1 (fun (x : Int) h' => h3.le h' ∧ 0 ≤ x ∧ x ≤ 2) (fun x _ => (2 - x).toNat) ?_ ⟨PH.le_refl _, by omega, by omega⟩
    rintro J x h4 ⟨l4, x0, x2⟩ hJ
    refine ⟨fun hc => ?_, fun hc => hK _ l4⟩
    have hc : x < 2 := by simpa using hc
    have hw : IntKind.wrap .i64 (x + 1) = x + 1 := wrap64_id (by omega) (by omega)
    have hmu : (2 - (x + 1)).toNat < (2 - x).toNat := by omega
    have hx : x = 0 ∨ x = 1 := by omega
    have a1 := l4 _ _ e1
    have a12 := l4 _ _ e12
    have a13 := l4 _ _ e13
    have step : ∀ h', h4.le h' → J (x + 1) h' := fun h' l' => hJ _ _ ⟨PH.le_trans l4 l', by omega, by omega⟩ hmu
    have nolog : ∃ p, (#[Value.pointer none, .pointer (some ⟨b12, 0, none⟩)] : Array Value)[x.toNat]? = some (.pointer p) ∧ NoLog h4 p := by
      rcases hx with rfl | rfl
      · exact ⟨none, rfl, .inl rfl⟩
      · exact ⟨some ⟨b12, 0, none⟩, rfl, .inr ⟨b12, _, _, _, rfl, a12⟩⟩
    obtain ⟨p, hp, nl⟩ := nolog
    refine xBlk_split (fun h' => h4.le h') (fun h' l' => by rw [hw]; exact step h' l') fun K' hK' => ?_
    clear hK hJ step
    simp only [xNn_some, add_mk, cell_mk, upd_at, del_at, if_true, if_false, Option.bind_some, List.getElem?_toArray, List.getElem?_cons_succ, List.getElem?_cons_zero, oI_some, oS_some, oM_some, oB_some, oP_some, oT_some, xIdx_some, Nat.zero_add, Nat.add_zero, Nat.mul_one, a13, a1, hp]
    refine ⟨x0, hc, ?_⟩
    refine (nl.opn e.thread).look ?_
    simp only [oTup_mk, oIx_some, oAgg_mk, xNn_some, add_mk, cell_mk, upd_at, del_at, if_true, if_false, Option.bind_some, List.getElem?_toArray, List.getElem?_cons_succ, List.getElem?_cons_zero, oI_some, oS_some, oM_some, oB_some, oP_some, oT_some, xIdx_some, Nat.zero_add, Nat.add_zero, Nat.mul_one]
    refine ⟨rfl, rfl, rfl, ?_⟩
    intro b5 n5
    have q5 : b ≠ b5 := ne_of_known a1 n5
    refine xSt_mk (PH.upd_same _ _ _) rfl (by decide) (by simp [oneCell]) (by simp) ?_
    rw [PH.upd_upd, setN3]
    have nl5 := nl.le (PH.le_upd (O := .cells #[.int .i64 0, .int .i64 0, .int .i64 0] 86 (0, 0)) n5)
    have l5 : h4.le _ := PH.le_upd (O := .cells #[.int .i64 0, .int .i64 0, .int .i64 0] 86 (0, 0)) n5
    have e5 := PH.upd_same h4 b5 (.cells #[.int .i64 0, .int .i64 0, .int .i64 0] 86 (0, 0))
    have a5 := l5 _ _ a1
    generalize h4.upd b5 (.cells #[.int .i64 0, .int .i64 0, .int .i64 0] 86 (0, 0)) = h5 at nl5 l5 e5 a5 ⊢
    simp only [xNn_some, add_mk, cell_mk, upd_at, del_at, if_true, if_false, Option.bind_some, List.getElem?_toArray, List.getElem?_cons_succ, List.getElem?_cons_zero, oI_some, oS_some, oM_some, oB_some, oP_some, oT_some, xIdx_some, Nat.zero_add, Nat.add_zero, Nat.mul_one, a5]
    refine (meets_theirs15 e).look ?_
    simp only [enV, oAgg_mk, xNn_some, add_mk, cell_mk, upd_at, del_at, if_true, if_false, Option.bind_some, List.getElem?_toArray, List.getElem?_cons_succ, List.getElem?_cons_zero, oI_some, oS_some, oM_some, oB_some, oP_some, oT_some, xIdx_some, Nat.zero_add, Nat.add_zero, Nat.mul_one]
    refine ⟨rfl, ?_⟩
    refine (nl5.add e).look ?_
    simp only [oI_some]
    refine xSc_or false (fun _ J hJ => ?_) ?_
    · refine nl5.all.look ?_
      simp only [oS_some]
      refine nl5.len.look ?_
      simp only [oI_some]
      exact hJ
    refine xSc_or false (fun _ J hJ => ?_) ?_
    · simp only [xNn_some, add_mk, cell_mk, upd_at, del_at, if_true, if_false, Option.bind_some, List.getElem?_toArray, List.getElem?_cons_succ, List.getElem?_cons_zero, oI_some, oS_some, oM_some, oB_some, oP_some, oT_some, xIdx_some, Nat.zero_add, Nat.add_zero, Nat.mul_one, e5]
      refine ⟨true, ?_, hJ⟩
      exact eqLaw_ints (P := Try.prog) (t := 86) [.i64, .i64, .i64] [0, 0, 0] [0, 0, 0] (by kernel_rfl) rfl rfl
    refine xSc_or false (fun _ J hJ => hJ) ?_
    refine xSc_or false (fun _ J hJ => ?_) ?_
    · refine nl5.model.look ?_
      simp only [oP_some]
      exact hJ
    exact ⟨fun hx => (by cases hx), fun _ => hK' _ l5⟩
  intro h4 l4
  refine (meets_gNew 1 1 1 (by decide)).mono ?_
  rintro _ h5 ⟨w, rfl, f⟩
  have o := GOwn.of_fresh (PH.le_refl h4) f
  obtain ⟨a, rfl⟩ := pointer_of o
  clear f
  simp only [oTup_mk, oIx_some, xNn_some, add_mk, cell_mk, upd_at, del_at, if_true, if_false, Option.bind_some, List.getElem?_toArray, List.getElem?_cons_succ, List.getElem?_cons_zero, oI_some, oS_some, oM_some, oB_some, oP_some, oT_some, xIdx_some, Nat.zero_add, Nat.add_zero, Nat.mul_one]
  refine ⟨rfl, xSc_or false (fun _ J hJ => hJ) ?_⟩
  refine ⟨fun _ => ?_, fun hx => (by cases hx)⟩
  refine (o.add (callE 1) (by decide) (of_decide_eq_true (by kernel_rfl))).mono ?_
  rintro _ h6 ⟨rfl, o⟩
  have k1 : (Gs.new 1 1 1).code (callE 1) = 0 := by kernel_rfl
  have hent : ((Gs.new 1 1 1).next (callE 1)).entries = [callE 1] := by kernel_rfl
  have hmod : ((Gs.new 1 1 1).next (callE 1)).model = Ms.new 1 1 1 := by kernel_rfl
  generalize (Gs.new 1 1 1).next (callE 1) = g2 at o hent hmod
  simp only [oI_some, k1]
  refine ⟨fun hx => (by cases hx), fun _ => ?_⟩
  obtain ⟨G, hG, r, l6, n6⟩ := o
  have ha : a = ⟨G.l, 0, none⟩ := by simpa [gp] using hG
  subst ha
  have hlen : g2.entries.length ≤ 100000 := by rw [hent]; decide
  refine (meets_gAll r hlen).mono ?_
  rintro v h7 hv
  rcases hv with ⟨he, _⟩ | ⟨b7, cap, junk, rfl, n7, rfl⟩
  · rw [hent] at he; cases he
  rw [hent]
  simp only [oS_some, List.length_singleton]
  refine ⟨fun hx => (by cases hx), fun _ => ?_⟩
  refine xIdx_at (by decide) (by decide) ?_
  try simp only [xNn_some, add_mk, cell_mk, upd_at, del_at, if_true, if_false, Option.bind_some, List.getElem?_toArray, List.getElem?_cons_succ, List.getElem?_cons_zero, oI_some, oS_some, oM_some, oB_some, oP_some, oT_some, xIdx_some, Nat.zero_add, Nat.add_zero, Nat.mul_one]
  refine xSt_mk (PH.upd_same _ _ _) rfl (by decide) (by simp [oneCell]) (by simp [recArr, enL]) ?_
  rw [PH.upd_upd]
  generalize Obj.cells (setN (recArr enL [callE 1] junk) _ [Value.int .i64 9]) 90 (0, 0) = O8
  have r8 := r.le (PH.le_upd (O := O8) n7)
  have l8 := PH.le_trans l6 (PH.le_upd (O := O8) n7)
  generalize h6.upd b7 O8 = h8 at r8 l8 ⊢
  refine (meets_gModel r8).mono ?_
  rintro _ h9 ⟨L, rfl, rm, l9, n9⟩
  simp only [mp, oP_some]
  refine (meets_Apply rm ⟨1, 0, 0, 0, 0⟩ (by rw [hmod]; exact of_decide_eq_true (by kernel_rfl))).mono ?_
  rintro _ h10 ⟨rfl, rm', x10⟩
  simp only [oI_some]
  have l10 : h8.le h10 := fun x O hx => x10 x O (l9 x O hx) (fun hm => by rw [n9 x hm] at hx; cases hx)
  have r10 := r8.le l10
  refine (meets_gAll r10 hlen).mono ?_
  rintro v h11 hv
  rcases hv with ⟨he, _⟩ | ⟨b11, cap', junk', rfl, n11, rfl⟩
  · rw [hent] at he; cases he
  rw [hent]
  simp only [oS_some, List.length_singleton]
  have e11 := PH.upd_same h10 b11 (.cells (recArr enL [callE 1] junk') 90 (0, 0))
  have r11 := r10.le (PH.le_upd (O := .cells (recArr enL [callE 1] junk') 90 (0, 0)) n11)
  have l11 := PH.le_trans l10 (PH.le_upd (O := .cells (recArr enL [callE 1] junk') 90 (0, 0)) n11)
  generalize h10.upd b11 (.cells (recArr enL [callE 1] junk') 90 (0, 0)) = h12 at e11 r11 l11 ⊢
  refine xSc_and true (fun _ J hJ => ?_) ?_
  · refine xIdx_at (by decide) (by decide) ?_
    exact rIa e11 (n := 1) (by simp [recArr, enL, callE]) hJ
  refine xSc_and_le true (fun _ J hJ => ?_) fun h13 l13 => ?_
  · refine (meets_gModel r11).mono ?_
    rintro _ h13 ⟨L', rfl, rm2, l13, _⟩
    simp only [mp, oP_some]
    refine (meets_Owner rm2 0).look ?_
    simp only [oI_some]
    have : ((g2.model.at 0).owner == -1) = true := by rw [hmod]; kernel_rfl
    rw [this]
    exact hJ _ l13
  refine xSc_and true (fun _ J hJ => ?_) ⟨rfl, ?_⟩
  · refine meets_alive15.look ?_
    simp only [oB_some]
    exact hJ
  · exact PH.le_trans le0 (PH.le_trans l4 (PH.le_trans l8 (PH.le_trans l11 l13)))

end Go.Gh

/-
  What a log keeps in order; its turns.
-/
set_option linter.unusedSimpArgs false
set_option linter.unusedVariables false
namespace Go.Gh
open Go Go.Md

theorem turn_spec {g g' : Gs} {e : En} (h : g.turn e = some g') : g.fits e = true ∧ g'.entries = g.entries ∧ g'.objects = g.objects ∧ (g'.model = g.model ∨ g'.model = g.model.next e.event) ∧ ∃ x, g'.threads = g.threads.set e.thread.toNat x ∨ g'.threads = g.threads := by
  unfold Gs.turn at h
  split at h
  · cases h
  rename_i hf
  have hf : g.fits e = true := by simpa using hf
  split at h
  · split at h
    · cases h
    · simp only [Option.some.injEq] at h; subst h
      exact ⟨hf, rfl, rfl, .inl rfl, _, .inl rfl⟩
  split at h
  · split at h
    · cases h
    · simp only [Option.some.injEq] at h; subst h
      exact ⟨hf, rfl, rfl, .inr rfl, _, .inl rfl⟩
  split at h
  · split at h
    · cases h
    · simp only [Option.some.injEq] at h; subst h
      exact ⟨hf, rfl, rfl, .inl rfl, _, .inl rfl⟩
  · simp only [Option.some.injEq] at h; subst h
    exact ⟨hf, rfl, rfl, .inl rfl, th0, .inr rfl⟩

theorem next_cases (g : Gs) (e : En) : (g.next e = g ∧ g.add e = none) ∨ ∃ g', g.turn e = some g' ∧ g.next e = { g' with entries := g.entries ++ [e] } ∧ g.add e = some { g' with entries := g.entries ++ [e] } := by
  unfold Gs.next Gs.add
  cases h : g.turn e with
  | none => exact .inl ⟨rfl, rfl⟩
  | some g' =>
    right
    refine ⟨g', rfl, ?_, ?_⟩
    · simp only [Option.map_some, Option.getD_some]
      rw [(turn_spec h).2.1]
    · simp only [Option.map_some]
      rw [(turn_spec h).2.1]

structure Gs.Ok (g : Gs) : Prop where
  m : g.model.Ok
theorem gnext_ok {g : Gs} (k : g.Ok) (e : En) : (g.next e).Ok := by
  rcases next_cases g e with ⟨h, _⟩ | ⟨g', ht, h, _⟩
  · rw [h]; exact k
  · rw [h]
    obtain ⟨_, _, _, hm, _⟩ := turn_spec ht
    refine ⟨?_⟩
    show g'.model.Ok
    rcases hm with hm | hm
    · rw [hm]; exact k.m
    · rw [hm]; exact next_ok k.m _
theorem gnext_len (g : Gs) (e : En) : (g.next e).entries.length ≤ g.entries.length + 1 := by
  rcases next_cases g e with ⟨h, _⟩ | ⟨g', ht, h, _⟩
  · rw [h]; omega
  · rw [h]; simp
theorem gnew_ok (t o c : Int) (ht : t ≤ 8) (ho : o ≤ 8) : (Gs.new t o c).Ok := ⟨new_ok t o c ht ho⟩

/-! ### Who called and did not return calls no more -/
structure Ck where
  opens : List Bool
  calls : List Int
  commits : List Int
def ck0 : Ck := ⟨List.replicate 4 false, List.replicate 4 0, List.replicate 4 0⟩
def Ck.o (c : Ck) (t : Int) : Bool := c.opens.getD t.toNat false
def Ck.n (c : Ck) (t : Int) : Int := c.calls.getD t.toNat 0
def Ck.k (c : Ck) (t : Int) : Int := c.commits.getD t.toNat 0
def Ck.step (c : Ck) (e : En) : Option Ck :=
  if (decide (e.thread < 0) || decide (e.thread > 3)) = true then none
  else if e.kind = 1 then
    (if (c.o e.thread || e.number != c.n e.thread) = true then none
     else some ⟨c.opens.set e.thread.toNat true, c.calls.set e.thread.toNat (IntKind.wrap .i64 (c.n e.thread + 1)), c.commits.set e.thread.toNat 0⟩)
  else if e.kind = 2 then
    (if c.o e.thread = true then some { c with commits := c.commits.set e.thread.toNat (IntKind.wrap .i64 (c.k e.thread + 1)) } else none)
  else
    (if (!c.o e.thread || c.k e.thread == 0 || e.number != IntKind.wrap .i64 (c.n e.thread - 1)) = true then none
     else some { c with opens := c.opens.set e.thread.toNat false })
structure Ck.Has (c : Ck) (g : Gs) : Prop where
  l1 : c.opens.length = 4
  l2 : c.calls.length = 4
  l3 : c.commits.length = 4
  l4 : g.threads.length = 4
  o : ∀ t : Nat, t < 4 → c.opens.getD t false = (g.threads.getD t th0).opn
  n : ∀ t : Nat, t < 4 → c.calls.getD t 0 = (g.threads.getD t th0).calls
  k : ∀ t : Nat, t < 4 → (g.threads.getD t th0).opn = true → c.commits.getD t 0 = (g.threads.getD t th0).many
/-- A log's entries are in turns. -/
def Gs.Turns (g : Gs) : Prop := ∃ c, g.entries.foldlM Ck.step ck0 = some c ∧ c.Has g

theorem getD_set {α : Type} (l : List α) (i j : Nat) (x d : α) (h : i < l.length) : (l.set i x).getD j d = if i = j then x else l.getD j d := by
  simp only [List.getD_eq_getElem?_getD, List.getElem?_set]
  by_cases e : i = j
  · subst e; simp [h]
  · simp [e]

theorem turns_new (o c : Int) : (Gs.new 4 o c).Turns := by
  refine ⟨ck0, rfl, rfl, rfl, rfl, rfl, ?_, ?_, ?_⟩
  all_goals
    intro t ht
    have : t = 0 ∨ t = 1 ∨ t = 2 ∨ t = 3 := by omega
    rcases this with rfl | rfl | rfl | rfl <;> first | rfl | (intro h; cases h)

theorem turns_next {g : Gs} (k : g.Turns) (e : En) : (g.next e).Turns := by
  rcases next_cases g e with ⟨h, _⟩ | ⟨g', ht, h, _⟩
  · rw [h]; exact k
  rw [h]
  obtain ⟨c, hc, hh⟩ := k
  obtain ⟨l1, l2, l3, l4, ho, hn, hk⟩ := hh
  have fin : ∀ c', c.step e = some c' → c'.Has { g' with entries := g.entries ++ [e] } → ({ g' with entries := g.entries ++ [e] } : Gs).Turns := by
    intro c' h1 h2
    refine ⟨c', ?_, h2⟩
    show (g.entries ++ [e]).foldlM Ck.step ck0 = some c'
    rw [List.foldlM_append, hc]
    simp [h1]
  obtain ⟨hfit, _⟩ := turn_spec ht
  have hf := hfit
  simp only [Gs.fits, Bool.and_eq_true, Bool.not_eq_true', decide_eq_false_iff_not] at hf
  have t0 : 0 ≤ e.thread := by omega
  have t1 : e.thread < 4 := by omega
  have t4 : e.thread.toNat < 4 := by omega
  have rng : (decide (e.thread < 0) || decide (e.thread > 3)) = false := by simp; omega
  have bare := hf.1.1
  have eo : c.o e.thread = (g.th e.thread).opn := ho _ t4
  have en : c.n e.thread = (g.th e.thread).calls := hn _ t4
  have ek : (g.th e.thread).opn = true → c.k e.thread = (g.th e.thread).many := hk _ t4
  have st : c.step e = if e.kind = 1 then
    (if (c.o e.thread || e.number != c.n e.thread) = true then none
     else some ⟨c.opens.set e.thread.toNat true, c.calls.set e.thread.toNat (IntKind.wrap .i64 (c.n e.thread + 1)), c.commits.set e.thread.toNat 0⟩)
  else if e.kind = 2 then
    (if c.o e.thread = true then some { c with commits := c.commits.set e.thread.toNat (IntKind.wrap .i64 (c.k e.thread + 1)) } else none)
  else
    (if (!c.o e.thread || c.k e.thread == 0 || e.number != IntKind.wrap .i64 (c.n e.thread - 1)) = true then none
     else some { c with opens := c.opens.set e.thread.toNat false }) := by unfold Ck.step; rw [if_neg (by rw [rng]; simp)]
  have glen : ∀ x, (g.threads.set e.thread.toNat x).length = 4 := fun x => by simp [l4]
  have gget : ∀ x (t : Nat), (g.threads.set e.thread.toNat x).getD t th0 = if e.thread.toNat = t then x else g.threads.getD t th0 := fun x t => getD_set _ _ _ _ _ (by rw [l4]; exact t4)
  unfold Gs.turn at ht
  rw [if_neg (by rw [hfit]; simp)] at ht
  by_cases k1 : e.kind = 1
  · rw [if_pos k1] at ht st
    split at ht
    · cases ht
    rename_i hb
    simp only [Bool.or_eq_true, not_or, Bool.not_eq_true] at hb
    obtain ⟨⟨b1, b2⟩, _⟩ := hb
    rw [eo, en, b1, b2, if_neg (by simp)] at st
    simp only [Option.some.injEq] at ht
    subst ht
    refine fin _ st ⟨by simp [l1], by simp [l2], by simp [l3], glen _, ?_, ?_, ?_⟩
    · intro t h4
      show (c.opens.set _ _).getD t false = ((g.threads.set e.thread.toNat _).getD t th0).opn
      rw [getD_set _ _ _ _ _ (by omega), gget]
      split
      · rfl
      · exact ho t h4
    · intro t h4
      show (c.calls.set _ _).getD t 0 = ((g.threads.set e.thread.toNat _).getD t th0).calls
      rw [getD_set _ _ _ _ _ (by omega), gget]
      split
      · rfl
      · exact hn t h4
    · intro t h4
      show ((g.threads.set e.thread.toNat _).getD t th0).opn = true → (c.commits.set _ _).getD t 0 = ((g.threads.set e.thread.toNat _).getD t th0).many
      rw [gget, getD_set _ _ _ _ _ (by omega)]
      split
      · intro _; rfl
      · exact hk t h4
  by_cases k2 : e.kind = 2
  · rw [if_neg k1, if_pos k2] at ht st
    split at ht
    · cases ht
    rename_i hb
    simp only [Bool.or_eq_true, not_or, Bool.not_eq_true, Bool.not_eq_false'] at hb
    have op : (g.th e.thread).opn = true := by
      have := hb.1
      unfold Th.takes at this
      cases h : (g.th e.thread).opn with
      | true => rfl
      | false => rw [h] at this; simp at this
    rw [eo, op, if_pos rfl, ek op] at st
    simp only [Option.some.injEq] at ht
    subst ht
    refine fin _ st ⟨l1, l2, by simp [l3], glen _, ?_, ?_, ?_⟩
    · intro t h4
      show c.opens.getD t false = ((g.threads.set e.thread.toNat _).getD t th0).opn
      rw [gget]
      split
      · rename_i h; subst h; exact ho _ h4
      · exact ho t h4
    · intro t h4
      show c.calls.getD t 0 = ((g.threads.set e.thread.toNat _).getD t th0).calls
      rw [gget]
      split
      · rename_i h; subst h; exact hn _ h4
      · exact hn t h4
    · intro t h4
      show ((g.threads.set e.thread.toNat _).getD t th0).opn = true → (c.commits.set _ _).getD t 0 = ((g.threads.set e.thread.toNat _).getD t th0).many
      rw [gget, getD_set _ _ _ _ _ (by omega)]
      split
      · intro _; rfl
      · exact hk t h4
  have k3 : e.kind = 3 := by
    simp only [En.bare, k1, k2, if_false] at bare
    split at bare
    · assumption
    · cases bare
  rw [if_neg k1, if_neg k2] at st
  rw [if_neg k1, if_neg k2, if_pos k3] at ht
  split at ht
  · cases ht
  rename_i hb
  simp only [Bool.or_eq_true, not_or, Bool.not_eq_true, Bool.not_eq_false'] at hb
  obtain ⟨⟨⟨b1, b2⟩, _⟩, _⟩ := hb
  have op : (g.th e.thread).opn = true ∧ ((g.th e.thread).many == 0) = false := by
    unfold Th.told at b1
    cases h : (g.th e.thread).opn with
    | false => rw [h] at b1; simp at b1
    | true =>
      cases h2 : ((g.th e.thread).many == 0) with
      | false => exact ⟨rfl, rfl⟩
      | true => rw [h, h2] at b1; simp at b1
  rw [eo, en, ek op.1, op.1, op.2, b2, if_neg (by simp)] at st
  simp only [Option.some.injEq] at ht
  subst ht
  refine fin _ st ⟨by simp [l1], l2, l3, glen _, ?_, ?_, ?_⟩
  · intro t h4
    show (c.opens.set _ _).getD t false = ((g.threads.set e.thread.toNat _).getD t th0).opn
    rw [getD_set _ _ _ _ _ (by omega), gget]
    split
    · rfl
    · exact ho t h4
  · intro t h4
    show c.calls.getD t 0 = ((g.threads.set e.thread.toNat _).getD t th0).calls
    rw [gget]
    split
    · rename_i h; subst h; exact hn _ h4
    · exact hn t h4
  · intro t h4
    show ((g.threads.set e.thread.toNat _).getD t th0).opn = true → c.commits.getD t 0 = ((g.threads.set e.thread.toNat _).getD t th0).many
    rw [gget]
    split
    · intro h; cases h
    · exact hk t h4

end Go.Gh

/-
  SX, part 16: slices that come in, of rows of integers.
-/
namespace Go.Sx
open Go Go.RowKit

theorem whole_cell (w : World) (a : Addr) : (whole w).cell a = w.cell? a := by
  unfold PH.cell World.cell? whole
  cases w.heap[a.block]? with
  | none => rfl
  | some O => cases O <;> rfl

theorem Plains.ints {k : IntKind} : ∀ {n : Nat} {r : List Value}, Plains (List.replicate n (.int k)) r → ∃ ns : List Int, ns.length = n ∧ r = ns.map (Value.int k) ∧ ∀ x ∈ ns, (Lit.int k x).wf = true := by
  intro n
  induction n with
  | zero => intro r h; exact ⟨[], rfl, by rw [h.done]; rfl, by simp⟩
  | succ n ih =>
    intro r h
    rw [List.replicate_succ] at h
    obtain ⟨x, r', rfl, hw, h⟩ := h.int
    obtain ⟨ns, h1, h2, h3⟩ := ih h
    exact ⟨x :: ns, by simp [h1], by simp [h2], by simpa using ⟨hw, h3⟩⟩

theorem cells?_get {w : World} {base : Nat} {a : Addr} {n : Nat} {cs : List Value} (h : w.cells? base a n = some cs) : cs.length = n ∧ ∀ j, j < n → w.cell? (a.add j) = cs[j]? := by
  unfold World.cells? at h
  split at h
  · have key : ∀ (m s : Nat) (cs : List Value), (List.range' s m).mapM (fun i => w.cell? (a.add i)) = some cs → cs.length = m ∧ ∀ j, j < m → w.cell? (a.add (s + j)) = cs[j]? := by
      intro m
      induction m with
      | zero => intro s cs h; simp at h; subst h; simp
      | succ m ih =>
        intro s cs h
        rw [List.range'_succ, List.mapM_cons] at h
        cases h1 : w.cell? (a.add s) with
        | none => rw [h1] at h; cases h
        | some v =>
          rw [h1] at h
          cases h2 : (List.range' (s + 1) m).mapM (fun i => w.cell? (a.add i)) with
          | none => rw [h2] at h; cases h
          | some vs =>
            rw [h2] at h
            cases h
            obtain ⟨e1, e2⟩ := ih (s + 1) vs h2
            refine ⟨by simp [e1], fun j hj => ?_⟩
            cases j with
            | zero => simpa using h1
            | succ j =>
              have := e2 j (by omega)
              rw [show s + 1 + j = s + (j + 1) from by omega] at this
              simpa using this
    rw [List.range_eq_range'] at h
    have := key n 0 cs h
    simpa using this
  · cases h

/-- A slice of rows of integers that comes in. -/
theorem rows_arg {H : Type} {enc : TypeId × Value → H} {P : Program} {w : World} {base base' : Nat} {spare : Nat → Bool} {held : Bool} {t e : TypeId} {v : Value} {d : DataW H} {ps : List MemPlace} {kd : IntKind} {k : Nat} (n : Nat)
    (ht : P.underlying t = some (.slice e)) (hl : plainCells P n e = some (List.replicate k (.int kd))) (hz : P.cellsOf e = k) (ho : Value.okWide P w .any base' t v) (h : DataW.Trod enc P w base spare held t v d ps) :
    ∃ (a : Option Addr) (m c : Nat) (rows : List (List Int)), v = .slice a m c ∧ m ≤ c ∧ c ≤ maxLen ∧ rows.length = m ∧ (∀ ns ∈ rows, ns.length = k ∧ ∀ x ∈ ns, (Lit.int kd x).wf = true) ∧
      ∀ i ns, rows[i]? = some ns → ∃ b, a = some b ∧ ∀ j, j < k → (whole w).cell ((b.add (i * k)).add j) = ns[j]?.map (Value.int kd) := by
  have key : ∃ a m c, v = .slice a m c := by
    simp only [Value.okWide, ht, Cell.okWide] at ho
    cases v <;> simp_all [Cell.ok]
  obtain ⟨a, m, c, rfl⟩ := key
  obtain ⟨fuel, hf⟩ := h
  rcases DataW.trod_slice ht hf with ⟨hc, _⟩ | ⟨b, len, cap, elems, rest, n1, rfl, hc, hx, hb, hle, hcap, hlen, hat, _, _⟩
  · simp only [Value.cells, List.cons.injEq, and_true] at hc
    injection hc with e1 e2 e3
    subst e1; subst e2; subst e3
    exact ⟨none, 0, 0, [], rfl, Nat.le_refl _, Nat.zero_le _, rfl, by simp, by simp⟩
  · simp only [Value.cells, List.cons.injEq, and_true] at hc
    injection hc with e1 e2 e3
    subst e1; subst e2; subst e3
    have each : ∀ i, i < m → ∃ ns : List Int, (ns.length = k ∧ ∀ x ∈ ns, (Lit.int kd x).wf = true) ∧ ∀ j, j < k → (whole w).cell ((b.add (i * k)).add j) = ns[j]?.map (Value.int kd) := by
      intro i hi
      have := hat i hi
      rw [List.getElem?_eq_getElem (by omega), hz] at this
      cases hcs : w.cells? base (b.add (i * k)) k with
      | none => rw [hcs] at this; cases this
      | some cs =>
        rw [hcs] at this
        obtain ⟨ns, h1, h2, h3⟩ := (plains_trod n _ e cs _ _ hl this).ints
        refine ⟨ns, ⟨h1, h3⟩, fun j hj => ?_⟩
        rw [whole_cell, (cells?_get hcs).2 j hj, h2]
        simp
    have all : ∀ q, q ≤ m → ∃ rows : List (List Int), rows.length = q ∧ (∀ ns ∈ rows, ns.length = k ∧ ∀ x ∈ ns, (Lit.int kd x).wf = true) ∧ ∀ i ns, rows[i]? = some ns → ∀ j, j < k → (whole w).cell ((b.add (i * k)).add j) = ns[j]?.map (Value.int kd) := by
      intro q
      induction q with
      | zero => intro _; exact ⟨[], rfl, by simp, by simp⟩
      | succ q ih =>
        intro hq
        obtain ⟨rows, r1, r2, r3⟩ := ih (by omega)
        obtain ⟨ns, n1, n2⟩ := each q (by omega)
        refine ⟨rows ++ [ns], by simp [r1], ?_, ?_⟩
        · intro x hx
          rcases List.mem_append.1 hx with h | h
          · exact r2 x h
          · simp at h; subst h; exact n1
        · intro i x hx
          by_cases hi : i < rows.length
          · rw [List.getElem?_append_left hi] at hx; exact r3 i x hx
          · rw [List.getElem?_append_right (by omega)] at hx
            have hi' : i = q := by
              have := (List.getElem?_eq_some_iff.1 hx).1
              simp at this; omega
            subst hi'
            rw [r1] at hx
            simp at hx
            subst hx
            exact n2
    obtain ⟨rows, r1, r2, r3⟩ := all m (Nat.le_refl _)
    exact ⟨some b, m, c, rows, rfl, hle, hcap, r1, r2, fun i ns hx => ⟨b, rfl, r3 i ns hx⟩⟩

end Go.Sx

/- The readings of some functions, printed by a program of the session (wip/tools/sx.py): each by one equation that the kernel reckons. -/
set_option linter.unusedVariables false
namespace Go.Proofs.Ytnnedfhpicdacaa
open Go Go.Sx Go.Proofs
/-- futtock/futtocklaw15.GhostTurns -/
def A_law15_GhostTurns : Ann := .seq (.leaf) (.seq (.leaf) (.seq (.seq (.leaf) (.cond [] (.seq (.leaf) (.leaf)) (.leaf))) (.seq (.seq (.leaf) (.block [] (.loop [(26, (.int .i64))] (.seq (.leaf) (.seq (.cond [] (.leaf) (.leaf)) (.seq (.block [] (.seq (.leaf) (.leaf))) (.leaf))))))) (.seq (.leaf) (.seq (.leaf) (.seq (.seq (.leaf) (.block [] (.loop [(38, (.int .i64))] (.seq (.leaf) (.seq (.cond [] (.leaf) (.leaf)) (.seq (.block [] (.seq (.leaf) (.seq (.leaf) (.seq (.seq (.leaf) (.cond [] (.seq (.leaf) (.leaf)) (.leaf))) (.seq (.leaf) (.block [] (.seq (.leaf) (.cond [] (.seq (.seq (.draw [(0, .flt), (1, .flt), (2, .flt), (3, .flt), (4, .flt), (5, .flt), (6, .flt), (7, .flt), (8, .flt), (9, .flt), (10, .flt)]) (.cond [] (.seq (.leaf) (.leaf)) (.leaf))) (.seq (.leaf) (.leaf))) (.seq (.leaf) (.cond [] (.seq (.seq (.leaf) (.cond [] (.seq (.leaf) (.leaf)) (.leaf))) (.leaf)) (.seq (.seq (.draw [(0, .flt), (1, .flt), (2, .flt), (3, .flt), (4, .flt), (5, .flt), (6, .flt), (7, .flt), (8, .flt), (9, .flt), (10, .flt), (11, .flt), (12, .flt), (13, .flt), (14, .flt), (15, .flt), (16, .flt), (17, .flt), (18, .flt)]) (.cond [] (.seq (.leaf) (.leaf)) (.leaf))) (.leaf)))))))))))) (.leaf))))))) (.seq (.leaf) (.leaf))))))))
def P_law15_GhostTurns (a0a : Option Addr) (a0l : Nat) (a0c : Nat) (h : PH) (Q : Value → PH → Prop) : Prop :=
 Meets Try.prog 39 #[(.int .i64 4), (.int .i64 2), (.int .i64 3)] h fun v14 h_1 =>
 oTup v14 2 fun x14cs =>
 oIx x14cs[0]? fun x14w =>
 oP (some x14w) fun x14_0 =>
 oIx x14cs[1]? fun x14w_1 =>
 oI .i64 (some x14w_1) fun x14_1 =>
 oP (some (.pointer x14_0)) fun x15 =>
 oI .i64 (some (.int .i64 x14_1)) fun x16 =>
 xSc (Option.isNone x15) false (fun J_1 =>
 J_1 (x16 != 0) h_1)
 (fun r22 h_2 =>
 xIte r22 (fun J_2 =>
 Q (.bool false) h_2)
 (fun J_2 =>
 J_2 h_2)
 (fun  (h_3 : PH) =>
 Meets Try.prog 34 #[(.slice a0a a0l a0c)] h_3 fun v24 h_4 =>
 oS (some v24) fun x24a x24l x24c =>
 xBlk (fun J_3 =>
 ∃ n, xLoopN (fun _ _ => False) (fun J_4 =>
 (fun (x26 : Int) (h_5 : PH) =>
 xIte (decide ((x26 : Int) < ((x24l : Nat) : Int))) (fun J_5 =>
 J_5 h_5)
 (fun J_5 =>
 J_3 h_5)
 (fun  (h_6 : PH) =>
 xBlk (fun J_6 =>
 xIdx x24a x24l x26 13 fun x28 =>
 oI .i64 (h_6.cell (x28.add 0)) fun x29_0 =>
 oI .i64 (h_6.cell (x28.add 1)) fun x29_1 =>
 oI .i64 (h_6.cell (x28.add 2)) fun x29_2 =>
 oI .i64 (h_6.cell (x28.add 3)) fun x29_3 =>
 oI .i64 (h_6.cell (x28.add 4)) fun x29_4 =>
 oI .i64 (h_6.cell (x28.add 5)) fun x29_5 =>
 oI .i64 (h_6.cell (x28.add 6)) fun x29_6 =>
 oI .i64 (h_6.cell (x28.add 7)) fun x29_7 =>
 oI .i64 (h_6.cell (x28.add 8)) fun x29_8 =>
 oI .i64 (h_6.cell (x28.add 9)) fun x29_9 =>
 oI .i64 (h_6.cell (x28.add 10)) fun x29_10 =>
 oI .i64 (h_6.cell (x28.add 11)) fun x29_11 =>
 oI .i64 (h_6.cell (x28.add 12)) fun x29_12 =>
 xNew h_6 (.cells #[(.int .i64 0), (.int .i64 0), (.int .i64 0), (.int .i64 0), (.int .i64 0), (.int .i64 0), (.int .i64 0), (.int .i64 0), (.int .i64 0), (.int .i64 0), (.int .i64 0), (.int .i64 0), (.int .i64 0)] 88 (0, 0)) fun b6 h_7 =>
 xSt 13 h_7 (⟨b6, 0, none⟩ : Addr) [(.int .i64 x29_0), (.int .i64 x29_1), (.int .i64 x29_2), (.int .i64 x29_3), (.int .i64 x29_4), (.int .i64 x29_5), (.int .i64 x29_6), (.int .i64 x29_7), (.int .i64 x29_8), (.int .i64 x29_9), (.int .i64 x29_10), (.int .i64 x29_11), (.int .i64 x29_12)] fun h_8 =>
 oI .i64 (h_8.cell ((⟨b6, 0, none⟩ : Addr).add 0)) fun x31_0 =>
 oI .i64 (h_8.cell ((⟨b6, 0, none⟩ : Addr).add 1)) fun x31_1 =>
 oI .i64 (h_8.cell ((⟨b6, 0, none⟩ : Addr).add 2)) fun x31_2 =>
 oI .i64 (h_8.cell ((⟨b6, 0, none⟩ : Addr).add 3)) fun x31_3 =>
 oI .i64 (h_8.cell ((⟨b6, 0, none⟩ : Addr).add 4)) fun x31_4 =>
 oI .i64 (h_8.cell ((⟨b6, 0, none⟩ : Addr).add 5)) fun x31_5 =>
 oI .i64 (h_8.cell ((⟨b6, 0, none⟩ : Addr).add 6)) fun x31_6 =>
 oI .i64 (h_8.cell ((⟨b6, 0, none⟩ : Addr).add 7)) fun x31_7 =>
 oI .i64 (h_8.cell ((⟨b6, 0, none⟩ : Addr).add 8)) fun x31_8 =>
 oI .i64 (h_8.cell ((⟨b6, 0, none⟩ : Addr).add 9)) fun x31_9 =>
 oI .i64 (h_8.cell ((⟨b6, 0, none⟩ : Addr).add 10)) fun x31_10 =>
 oI .i64 (h_8.cell ((⟨b6, 0, none⟩ : Addr).add 11)) fun x31_11 =>
 oI .i64 (h_8.cell ((⟨b6, 0, none⟩ : Addr).add 12)) fun x31_12 =>
 Meets Try.prog 35 #[(.agg #[(.int .i64 x31_0), (.int .i64 x31_1), (.int .i64 x31_2), (.int .i64 x31_3), (.int .i64 x31_4), (.int .i64 x31_5), (.int .i64 x31_6), (.int .i64 x31_7), (.int .i64 x31_8), (.int .i64 x31_9), (.int .i64 x31_10), (.int .i64 x31_11), (.int .i64 x31_12)])] h_8 fun v32 h_9 =>
 oAgg v32 13 fun x32cs =>
 oI .i64 x32cs[0]? fun x32_0 =>
 oI .i64 x32cs[1]? fun x32_1 =>
 oI .i64 x32cs[2]? fun x32_2 =>
 oI .i64 x32cs[3]? fun x32_3 =>
 oI .i64 x32cs[4]? fun x32_4 =>
 oI .i64 x32cs[5]? fun x32_5 =>
 oI .i64 x32cs[6]? fun x32_6 =>
 oI .i64 x32cs[7]? fun x32_7 =>
 oI .i64 x32cs[8]? fun x32_8 =>
 oI .i64 x32cs[9]? fun x32_9 =>
 oI .i64 x32cs[10]? fun x32_10 =>
 oI .i64 x32cs[11]? fun x32_11 =>
 oI .i64 x32cs[12]? fun x32_12 =>
 Meets Try.prog 40 #[(.pointer x15), (.agg #[(.int .i64 x32_0), (.int .i64 x32_1), (.int .i64 x32_2), (.int .i64 x32_3), (.int .i64 x32_4), (.int .i64 x32_5), (.int .i64 x32_6), (.int .i64 x32_7), (.int .i64 x32_8), (.int .i64 x32_9), (.int .i64 x32_10), (.int .i64 x32_11), (.int .i64 x32_12)])] h_9 fun v33 h_10 =>
 oI .i64 (some v33) fun x33 =>
 J_6 h_10)
 (fun  (h_11 : PH) =>
 J_4 (IntKind.wrap .i64 (x26 + 1)) h_11)))) n 0 h_4)
 (fun  (h_12 : PH) =>
 xNew h_12 (.cells #[(.bool false), (.bool false), (.bool false), (.bool false)] 103 (0, 0)) fun b7 h_13 =>
 xNew h_13 (.cells #[(.int .i64 0), (.int .i64 0), (.int .i64 0), (.int .i64 0)] 104 (0, 0)) fun b8 h_14 =>
 xNew h_14 (.cells #[(.int .i64 0), (.int .i64 0), (.int .i64 0), (.int .i64 0)] 104 (0, 0)) fun b9 h_15 =>
 Meets Try.prog 41 #[(.pointer x15)] h_15 fun v36 h_16 =>
 oS (some v36) fun x36a x36l x36c =>
 xBlk (fun J_7 =>
 ∃ n_1, xLoopN (fun _ _ => False) (fun J_8 =>
 (fun (x38 : Int) (h_17 : PH) =>
 xIte (decide ((x38 : Int) < ((x36l : Nat) : Int))) (fun J_9 =>
 J_9 h_17)
 (fun J_9 =>
 J_7 h_17)
 (fun  (h_18 : PH) =>
 xBlk (fun J_10 =>
 xIdx x36a x36l x38 13 fun x40 =>
 oI .i64 (h_18.cell (x40.add 0)) fun x41_0 =>
 oI .i64 (h_18.cell (x40.add 1)) fun x41_1 =>
 oI .i64 (h_18.cell (x40.add 2)) fun x41_2 =>
 oI .i64 (h_18.cell (x40.add 3)) fun x41_3 =>
 oI .i64 (h_18.cell (x40.add 4)) fun x41_4 =>
 oI .i64 (h_18.cell (x40.add 5)) fun x41_5 =>
 oI .i64 (h_18.cell (x40.add 6)) fun x41_6 =>
 oI .i64 (h_18.cell (x40.add 7)) fun x41_7 =>
 oI .i64 (h_18.cell (x40.add 8)) fun x41_8 =>
 oI .i64 (h_18.cell (x40.add 9)) fun x41_9 =>
 oI .i64 (h_18.cell (x40.add 10)) fun x41_10 =>
 oI .i64 (h_18.cell (x40.add 11)) fun x41_11 =>
 oI .i64 (h_18.cell (x40.add 12)) fun x41_12 =>
 xNew h_18 (.cells #[(.int .i64 0), (.int .i64 0), (.int .i64 0), (.int .i64 0), (.int .i64 0), (.int .i64 0), (.int .i64 0), (.int .i64 0), (.int .i64 0), (.int .i64 0), (.int .i64 0), (.int .i64 0), (.int .i64 0)] 90 (0, 0)) fun b11 h_19 =>
 xSt 13 h_19 (⟨b11, 0, none⟩ : Addr) [(.int .i64 x41_0), (.int .i64 x41_1), (.int .i64 x41_2), (.int .i64 x41_3), (.int .i64 x41_4), (.int .i64 x41_5), (.int .i64 x41_6), (.int .i64 x41_7), (.int .i64 x41_8), (.int .i64 x41_9), (.int .i64 x41_10), (.int .i64 x41_11), (.int .i64 x41_12)] fun h_20 =>
 oI .i64 (h_20.cell ((⟨b11, 0, none⟩ : Addr).add 1)) fun x43 =>
 xSc (decide ((x43 : Int) < 0)) false (fun J_11 =>
 J_11 (decide ((x43 : Int) > 3)) h_20)
 (fun r49 h_21 =>
 xIte r49 (fun J_12 =>
 Q (.bool false) h_21)
 (fun J_12 =>
 J_12 h_21)
 (fun  (h_22 : PH) =>
 oI .i64 (h_22.cell ((⟨b11, 0, none⟩ : Addr).add 0)) fun x51 =>
 xBlk (fun J_13 =>
 xIte (x51 == 1) (fun J_14 =>
 xDraw h_22 fun hs_1 =>
 xIdxA (⟨b7, 0, none⟩ : Addr) 4 x43 1 fun x76 =>
 oB (hs_1.cell x76) fun x77 =>
 xSc x77 false (fun J_15 =>
 oI .i64 (hs_1.cell ((⟨b11, 0, none⟩ : Addr).add 2)) fun x80 =>
 xIdxA (⟨b8, 0, none⟩ : Addr) 4 x43 1 fun x82 =>
 oI .i64 (hs_1.cell x82) fun x83 =>
 J_15 (x80 != x83) h_22)
 (fun r85 h_23 =>
 xIte r85 (fun J_16 =>
 Q (.bool false) h_23)
 (fun J_16 =>
 J_16 h_23)
 (fun  (h_24 : PH) =>
 xIdxA (⟨b7, 0, none⟩ : Addr) 4 x43 1 fun x88 =>
 xSt 1 h_24 x88 [(.bool true)] fun h_25 =>
 xIdxA (⟨b9, 0, none⟩ : Addr) 4 x43 1 fun x89 =>
 xSt 1 h_25 x89 [(.int .i64 0)] fun h_26 =>
 xIdxA (⟨b8, 0, none⟩ : Addr) 4 x43 1 fun x91 =>
 oI .i64 (h_26.cell x91) fun x92 =>
 xIdxA (⟨b8, 0, none⟩ : Addr) 4 x43 1 fun x94 =>
 xSt 1 h_26 x94 [(.int .i64 (IntKind.wrap .i64 (x92 + 1)))] fun h_27 =>
 J_14 h_27)) h_22)
 (fun J_14 =>
 xIte (x51 == 2) (fun J_17 =>
 xIdxA (⟨b7, 0, none⟩ : Addr) 4 x43 1 fun x98 =>
 oB (h_22.cell x98) fun x99 =>
 xIte (!x99) (fun J_18 =>
 Q (.bool false) h_22)
 (fun J_18 =>
 J_18 h_22)
 (fun  (h_28 : PH) =>
 xIdxA (⟨b9, 0, none⟩ : Addr) 4 x43 1 fun x102 =>
 oI .i64 (h_28.cell x102) fun x103 =>
 xIdxA (⟨b9, 0, none⟩ : Addr) 4 x43 1 fun x105 =>
 xSt 1 h_28 x105 [(.int .i64 (IntKind.wrap .i64 (x103 + 1)))] fun h_29 =>
 J_17 h_29))
 (fun J_17 =>
 xDraw h_22 fun hs_2 =>
 xIdxA (⟨b7, 0, none⟩ : Addr) 4 x43 1 fun x53 =>
 oB (hs_2.cell x53) fun x54 =>
 xSc (!x54) false (fun J_19 =>
 xIdxA (⟨b9, 0, none⟩ : Addr) 4 x43 1 fun x58 =>
 oI .i64 (hs_2.cell x58) fun x59 =>
 J_19 (x59 == 0) h_22)
 (fun r61 h_30 =>
 xSc r61 false (fun J_20 =>
 oI .i64 (hs_2.cell ((⟨b11, 0, none⟩ : Addr).add 2)) fun x64 =>
 xIdxA (⟨b8, 0, none⟩ : Addr) 4 x43 1 fun x66 =>
 oI .i64 (hs_2.cell x66) fun x67 =>
 J_20 (x64 != (IntKind.wrap .i64 (x67 - 1))) h_30)
 (fun r70 h_31 =>
 xIte r70 (fun J_21 =>
 Q (.bool false) h_31)
 (fun J_21 =>
 J_21 h_31)
 (fun  (h_32 : PH) =>
 xIdxA (⟨b7, 0, none⟩ : Addr) 4 x43 1 fun x72 =>
 xSt 1 h_32 x72 [(.bool false)] fun h_33 =>
 J_17 h_33)) h_30) h_22)
 (fun  (h_34 : PH) =>
 J_14 h_34))
 (fun  (h_35 : PH) =>
 J_13 h_35))
 (fun  (h_36 : PH) =>
 J_10 h_36))) h_20)
 (fun  (h_37 : PH) =>
 J_8 (IntKind.wrap .i64 (x38 + 1)) h_37)))) n_1 0 h_16)
 (fun  (h_38 : PH) =>
 Meets Try.prog 38 #[] h_38 fun v107 h_39 =>
 oB (some v107) fun x107 =>
 Q (.bool x107) h_39)))) h_1
theorem P_law15_GhostTurns_eq (a0a : Option Addr) (a0l : Nat) (a0c : Nat) (h : PH) (Q : Value → PH → Prop) : dFn Try.prog Try.f9 A_law15_GhostTurns #[(.slice a0a a0l a0c)] h Q = P_law15_GhostTurns a0a a0l a0c h Q := by kernel_rfl
theorem P_law15_GhostTurns_of {a0a : Option Addr} {a0l : Nat} {a0c : Nat} {h : PH} {Q : Value → PH → Prop} (x : P_law15_GhostTurns a0a a0l a0c h Q) : Meets Try.prog 9 #[(.slice a0a a0l a0c)] h Q :=
  spec_of Try.func9 mix (by kernel_rfl) ((P_law15_GhostTurns_eq a0a a0l a0c h Q).symm ▸ x)
/-- futtock/futtocklaw15.short -/
def A_law15_short : Ann := .seq (.leaf) (.seq (.leaf) (.leaf))
def P_law15_short (a0a : Option Addr) (a0l : Nat) (a0c : Nat) (h : PH) (Q : Value → PH → Prop) : Prop :=
 xSlice a0a a0l a0c 13 none (some (if 120 < ((a0l : Nat) : Int) then 120 else ((a0l : Nat) : Int))) fun x7a x7l x7c =>
 Q (.slice x7a x7l x7c) h
theorem P_law15_short_eq (a0a : Option Addr) (a0l : Nat) (a0c : Nat) (h : PH) (Q : Value → PH → Prop) : dFn Try.prog Try.f34 A_law15_short #[(.slice a0a a0l a0c)] h Q = P_law15_short a0a a0l a0c h Q := by kernel_rfl
theorem P_law15_short_of {a0a : Option Addr} {a0l : Nat} {a0c : Nat} {h : PH} {Q : Value → PH → Prop} (x : P_law15_short a0a a0l a0c h Q) : Meets Try.prog 34 #[(.slice a0a a0l a0c)] h Q :=
  spec_of Try.func34 mix (by kernel_rfl) ((P_law15_short_eq a0a a0l a0c h Q).symm ▸ x)
end Go.Proofs.Ytnnedfhpicdacaa

/-
  Entries that come in; the walk of GhostTurns.
-/
set_option linter.unusedSimpArgs false
set_option linter.unusedVariables false
namespace Go.Gh
open Go Go.Sx Go.Md Go.Proofs Go.Proofs.Ytnnedfhpicdacaa

/-- Entries in a row, wherever. -/
structure EnsAt (h : PH) (a : Option Addr) (l : List En) : Prop where
  at_ : ∀ (i : Nat) e, l[i]? = some e → ∃ b, a = some b ∧ ∀ (j : Nat) v, (enL e)[j]? = some v → h.cell ((b.add (i * 13)).add j) = some v
theorem EnsAt.le {h h' : PH} {a : Option Addr} {l : List En} (x : EnsAt h a l) (le : h.le h') : EnsAt h' a l := by
  refine ⟨fun i e he => ?_⟩
  obtain ⟨b, hb, hc⟩ := x.at_ i e he
  exact ⟨b, hb, fun j v hv => PH.cell_le le (hc j v hv)⟩
theorem EnsAt.take {h : PH} {a : Option Addr} {l : List En} (x : EnsAt h a l) (n : Nat) : EnsAt h a (l.take n) := by
  refine ⟨fun i e he => x.at_ i e ?_⟩
  rw [List.getElem?_take] at he
  split at he
  · exact he
  · cases he
def enOf (ns : List Int) : En := ⟨ns.getD 0 0, ns.getD 1 0, ns.getD 2 0, ⟨ns.getD 3 0, ns.getD 4 0, ns.getD 5 0⟩, ⟨ns.getD 6 0, ns.getD 7 0, ns.getD 8 0, ns.getD 9 0, ns.getD 10 0⟩, ns.getD 11 0, ns.getD 12 0⟩
theorem enL_of {ns : List Int} (h : ns.length = 13) : enL (enOf ns) = ns.map (Value.int .i64) := by
  match ns, h with
  | [a, b, c, d, e, f, g, i, j, k, l, m, n], _ => rfl
theorem ensAt_of {h : PH} {a : Option Addr} {rows : List (List Int)} (hl : ∀ ns ∈ rows, ns.length = 13) (hr : ∀ i ns, rows[i]? = some ns → ∃ b, a = some b ∧ ∀ j, j < 13 → h.cell ((b.add (i * 13)).add j) = ns[j]?.map (Value.int .i64)) : EnsAt h a (rows.map enOf) := by
  refine ⟨fun i e he => ?_⟩
  rw [List.getElem?_map] at he
  cases hi : rows[i]? with
  | none => rw [hi] at he; cases he
  | some ns =>
    rw [hi] at he
    simp only [Option.map_some, Option.some.injEq] at he
    obtain ⟨b, hb, hc⟩ := hr i ns hi
    have l13 := hl ns (List.mem_of_getElem? hi)
    subst he
    refine ⟨b, hb, fun j v hv => ?_⟩
    rw [enL_of l13, List.getElem?_map] at hv
    have hj : j < 13 := by
      rw [← l13]
      cases hx : ns[j]? with
      | none => rw [hx] at hv; cases hv
      | some x => exact (List.getElem?_eq_some_iff.1 hx).1
    rw [hc j hj]; exact hv

theorem meets_short15 {h : PH} {a : Option Addr} {l c : Nat} (hc : l ≤ c) : Meets Try.prog 34 #[.slice a l c] h fun v h' => (∃ c', v = .slice a (min l 120) c') ∧ h' = h := by
  apply P_law15_short_of
  unfold P_law15_short xSlice
  have key : (if (120 : Int) < (l : Int) then (120 : Int) else (l : Int)) = ((min l 120 : Nat) : Int) := by
    split <;> omega
  rw [key]
  simp only [Option.getD_none, Option.getD_some, Int.toNat_zero, Nat.zero_mul, Nat.sub_zero, Int.toNat_natCast]
  refine ⟨⟨by omega, by omega, by omega⟩, ⟨c, ?_⟩, by trivial⟩
  congr 1
  split
  · rfl
  · cases a with
    | none => rfl
    | some b => simp [Addr.add]

/-- Bools and counts of four threads. -/
def bArr (l : List Bool) : Array Value := (l.map Value.bool).toArray
def iArr (l : List Int) : Array Value := (l.map (Value.int .i64)).toArray
theorem bArr_get {l : List Bool} {n : Nat} (h : n < l.length) : (bArr l)[n]? = some (.bool (l.getD n false)) := by
  simp [bArr, List.getD_eq_getElem?_getD, h]
theorem iArr_get {l : List Int} {n : Nat} (h : n < l.length) : (iArr l)[n]? = some (.int .i64 (l.getD n 0)) := by
  simp [iArr, List.getD_eq_getElem?_getD, h]
theorem bArr_set {l : List Bool} {n : Nat} (b : Bool) : setN (bArr l) n [.bool b] = bArr (l.set n b) := by
  simp [setN, bArr, List.map_set]
theorem iArr_set {l : List Int} {n : Nat} (b : Int) : setN (iArr l) n [.int .i64 b] = iArr (l.set n b) := by
  simp [setN, iArr, List.map_set]

theorem setW_all : ∀ (vs pre c : List Value), c.length = vs.length → setW (pre ++ c) pre.length vs = pre ++ vs := by
  intro vs
  induction vs with
  | nil => intro pre c h; simp at h; subst h; rfl
  | cons v vs ih =>
    intro pre c h
    cases c with
    | nil => cases h
    | cons x c =>
      simp only [setW]
      rw [List.set_append_right _ _ (Nat.le_refl _), Nat.sub_self, List.set_cons_zero]
      have := ih (pre ++ [v]) c (by simpa using h)
      simpa [List.length_append] using this
/-- A whole row written anew. -/
theorem setN_all (c : List Value) (vs : List Value) (h : c.length = vs.length) : setN c.toArray 0 vs = vs.toArray := by
  rw [setN_setW]
  congr 1
  exact setW_all vs [] c h

theorem enL_len (e : En) : (enL e).length = 13 := rfl
theorem efresh_ens {h h' : PH} {v : Value} {l : List En} (f : EFresh h h' v l) : ∃ (q : Option Addr) (c : Nat) (T : List Nat), v = .slice q l.length c ∧ h.le h' ∧ (∀ b ∈ T, h b = none) ∧ ∀ g : PH, (∀ b ∈ T, g b = h' b) → EnsAt g q l := by
  rcases f with ⟨rfl, rfl, rfl⟩ | ⟨b, cap, junk, rfl, nb, rfl⟩
  · exact ⟨none, 0, [], rfl, PH.le_refl _, by simp, fun g _ => ⟨fun i e he => by cases he⟩⟩
  · refine ⟨some ⟨b, 0, none⟩, cap, [b], rfl, PH.le_upd nb, by simpa using nb, fun g hg => ⟨fun i e he => ⟨_, rfl, fun j v hv => ?_⟩⟩⟩
    have eb := (hg b (by simp)).trans (PH.upd_same _ _ _)
    have hj : j < 13 := by
      have := (List.getElem?_eq_some_iff.1 hv).1
      rwa [enL_len] at this
    rw [add_mk, add_mk, cellAt eb, Nat.zero_add, rec_get enL_len e he j hj]
    exact hv
theorem foldlM_prefix {α β : Type} (f : β → α → Option β) : ∀ (l : List α) (a r : β), l.foldlM f a = some r → ∀ k (hk : k < l.length), ∃ m m', (l.take k).foldlM f a = some m ∧ f m l[k] = some m' ∧ (l.take (k + 1)).foldlM f a = some m' := by
  intro l
  induction l with
  | nil => intro a r _ k hk; simp at hk
  | cons x l ih =>
    intro a r h k hk
    rw [List.foldlM_cons] at h
    cases h1 : f a x with
    | none => rw [h1] at h; cases h
    | some y =>
      rw [h1] at h
      cases k with
      | zero => exact ⟨a, y, rfl, h1, by simp [h1]⟩
      | succ k =>
        obtain ⟨m, m', e1, e2, e3⟩ := ih y r h k (by simpa using hk)
        refine ⟨m, m', ?_, e2, ?_⟩
        · rw [List.take_succ_cons, List.foldlM_cons, h1]; exact e1
        · rw [List.take_succ_cons, List.foldlM_cons, h1]; exact e3
theorem ck_len {c c' : Ck} {e : En} (h : c.step e = some c') (h1 : c.opens.length = 4) (h2 : c.calls.length = 4) (h3 : c.commits.length = 4) : c'.opens.length = 4 ∧ c'.calls.length = 4 ∧ c'.commits.length = 4 := by
  unfold Ck.step at h
  split at h
  · cases h
  split at h
  · split at h
    · cases h
    · simp only [Option.some.injEq] at h; subst h; simp [h1, h2, h3]
  split at h
  · split at h
    · simp only [Option.some.injEq] at h; subst h; simp [h1, h2, h3]
    · cases h
  · split at h
    · cases h
    · simp only [Option.some.injEq] at h; subst h; simp [h1, h2, h3]

set_option maxHeartbeats 2000000 in
theorem meets_GhostTurns {h : PH} {a : Option Addr} {l c : Nat} {ens : List En} (hc : l ≤ c) (hl : ens.length = l) (x : EnsAt h a ens) :
    Meets Try.prog 9 #[.slice a l c] h fun v h' => v = .bool true ∧ h' = h := by
  apply Meets.same
  apply P_law15_GhostTurns_of
  unfold P_law15_GhostTurns
  refine (meets_gNew 4 2 3 (by decide)).mono ?_
  rintro _ h1 ⟨w, rfl, f⟩
  have o := GOwn.of_fresh (PH.le_refl h) f
  obtain ⟨p, rfl⟩ := pointer_of o
  clear f
  have k0 := gnew_ok 4 2 3 (by decide) (by decide)
  have t0 := turns_new 2 3
  have len0 : (Gs.new 4 2 3).entries.length = 0 := rfl
  generalize Gs.new 4 2 3 = g0 at o k0 t0 len0
  simp only [oTup_mk, oIx_some, oP_some, oI_some, List.getElem?_toArray, List.getElem?_cons_zero, List.getElem?_cons_succ]
  refine ⟨rfl, xSc_or false (fun _ J hJ => hJ) ⟨fun hx => (by cases hx), fun _ => ?_⟩⟩
  refine (meets_short15 hc).mono ?_
  rintro _ _ ⟨⟨c2, rfl⟩, rfl⟩
  simp only [oS_some]
  have x2 := x.take (min l 120)
  have hl2 : (ens.take (min l 120)).length = min l 120 := by rw [List.length_take]; omega
  have hmax : min l 120 ≤ 120 := by omega
  generalize ens.take (min l 120) = es at x2 hl2
  generalize min l 120 = n at hl2 hmax ⊢
  refine xBlk_split (fun h' => ∃ g : Gs, g.Turns ∧ g.entries.length ≤ 120 ∧ GOwn h h' (.pointer (some p)) g) ?_ fun K hK => ?_
  rotate_left
  · refine xLoop1 (fun (i : Int) h' => 0 ≤ i ∧ i ≤ n ∧ ∃ g : Gs, g.Ok ∧ g.Turns ∧ g.entries.length ≤ i.toNat ∧ GOwn h h' (.pointer (some p)) g) (fun (i : Int) _ => ((n : Int) - i).toNat) ?_ ⟨by omega, by omega, _, k0, t0, by omega, o⟩
    rintro J i h2 ⟨i0, i1, g, ks, ts, len, o⟩ hJ
    refine ⟨fun hx => ?_, fun hx => hK _ ⟨g, ts, by omega, o⟩⟩
    have hx := of_decide_eq_true hx
    have hw : IntKind.wrap .i64 (i + 1) = i + 1 := wrap64_id (by omega) (by omega)
    have hmu : ((n : Int) - (i + 1)).toNat < ((n : Int) - i).toNat := by omega
    have j0 : 0 ≤ i + 1 := by omega
    have j1 : i + 1 ≤ n := by omega
    have j2 : i.toNat + 1 ≤ (i + 1).toNat := by omega
    have hi : i.toNat < es.length := by omega
    have few : g.entries.length ≤ 100000 := by omega
    have step : ∀ h' g', g'.Ok → g'.Turns → g'.entries.length ≤ i.toNat + 1 → GOwn h h' (.pointer (some p)) g' → J (i + 1) h' := fun h' s' k' t' l' o' => hJ _ _ ⟨j0, j1, s', k', t', Nat.le_trans l' j2, o'⟩ hmu
    clear hJ hmu j0 j1 hK
    obtain ⟨b, rfl, hcell⟩ := (x2.le o.base).at_ i.toNat es[i.toNat] (List.getElem?_eq_getElem hi)
    generalize es[i.toNat] = e at hcell
    have c0 := hcell 0 _ rfl
    have c1 := hcell 1 _ rfl
    have c2 := hcell 2 _ rfl
    have c3 := hcell 3 _ rfl
    have c4 := hcell 4 _ rfl
    have c5 := hcell 5 _ rfl
    have c6 := hcell 6 _ rfl
    have c7 := hcell 7 _ rfl
    have c8 := hcell 8 _ rfl
    have c9 := hcell 9 _ rfl
    have c10 := hcell 10 _ rfl
    have c11 := hcell 11 _ rfl
    have c12 := hcell 12 _ rfl
    clear hcell
    refine xBlk_split (fun h' => ∃ g' : Gs, g'.Ok ∧ g'.Turns ∧ g'.entries.length ≤ i.toNat + 1 ∧ GOwn h h' (.pointer (some p)) g') (fun h' ⟨s', k', t', l', o'⟩ => by rw [hw]; exact step h' s' k' t' l' o') fun K hK => ?_
    clear step
    refine ⟨b, rfl, i0, hx, ?_⟩
    simp only [c0, c1, c2, c3, c4, c5, c6, c7, c8, c9, c10, c11, c12, oI_some]
    clear c0 c1 c2 c3 c4 c5 c6 c7 c8 c9 c10 c11 c12
    intro b6 n6
    refine xSt_mk (PH.upd_same _ _ _) rfl (by decide) (by simp [oneCell]) (by simp) ?_
    rw [PH.upd_upd, setN_all _ _ (by rfl)]
    have l3 := PH.le_upd (O := .cells #[.int .i64 e.kind, .int .i64 e.thread, .int .i64 e.number, .int .i64 e.op.kind, .int .i64 e.op.obj, .int .i64 e.op.arg, .int .i64 e.event.kind, .int .i64 e.event.thread, .int .i64 e.event.obj, .int .i64 e.event.arg, .int .i64 e.event.err, .int .i64 e.value, .int .i64 e.err] 88 (0, 0)) n6
    have e3 := PH.upd_same h2 b6 (.cells #[.int .i64 e.kind, .int .i64 e.thread, .int .i64 e.number, .int .i64 e.op.kind, .int .i64 e.op.obj, .int .i64 e.op.arg, .int .i64 e.event.kind, .int .i64 e.event.thread, .int .i64 e.event.obj, .int .i64 e.event.arg, .int .i64 e.event.err, .int .i64 e.value, .int .i64 e.err] 88 (0, 0))
    have o3 := o.le l3
    generalize h2.upd b6 (.cells #[.int .i64 e.kind, .int .i64 e.thread, .int .i64 e.number, .int .i64 e.op.kind, .int .i64 e.op.obj, .int .i64 e.op.arg, .int .i64 e.event.kind, .int .i64 e.event.thread, .int .i64 e.event.obj, .int .i64 e.event.arg, .int .i64 e.event.err, .int .i64 e.value, .int .i64 e.err] 88 (0, 0)) = h3 at l3 e3 o3 ⊢
    simp only [xNn_some, add_mk, cell_mk, upd_at, del_at, if_true, if_false, Option.bind_some, List.getElem?_toArray, List.getElem?_cons_succ, List.getElem?_cons_zero, oI_some, oS_some, oM_some, oB_some, oP_some, oT_some, xIdx_some, Nat.zero_add, Nat.add_zero, Nat.mul_one, e3]
    refine (meets_theirs15 e).look ?_
    simp only [enV, oAgg_mk, xNn_some, add_mk, cell_mk, upd_at, del_at, if_true, if_false, Option.bind_some, List.getElem?_toArray, List.getElem?_cons_succ, List.getElem?_cons_zero, oI_some, oS_some, oM_some, oB_some, oP_some, oT_some, xIdx_some, Nat.zero_add, Nat.add_zero, Nat.mul_one]
    refine ⟨rfl, ?_⟩
    refine (o3.add e few ks.m.few).mono ?_
    rintro _ h5 ⟨rfl, o5⟩
    simp only [oI_some]
    exact hK _ ⟨_, gnext_ok ks e, turns_next ts e, Nat.le_trans (gnext_len g e) (by omega), o5⟩
  clear x2 hl2 hmax o k0 t0 len0
  rintro h2 ⟨g, ⟨ck, hck, _⟩, len, o⟩
  have le2 := o.base
  obtain ⟨G, hG, r, _, _⟩ := o
  rw [hG]
  refine xNew_intro fun b7 h3 l3 n7 f7 => ?_
  refine xNew_intro fun b8 h4 l4 n8 f8 => ?_
  refine xNew_intro fun b9 h5 l5 n9 f9 => ?_
  have r5 := ((r.le l3).le l4).le l5
  have g8 := l5 _ _ f8
  have g7 := l5 _ _ (l4 _ _ f7)
  have n78 : b7 ≠ b8 := ne_of_known f7 n8
  have n89 : b8 ≠ b9 := ne_of_known f8 n9
  have n79 : b7 ≠ b9 := ne_of_known (l4 _ _ f7) n9
  have m7 : h b7 = none := none_of le2 n7
  have m8 : h b8 = none := none_of (PH.le_trans le2 l3) n8
  have m9 : h b9 = none := none_of (PH.le_trans le2 (PH.le_trans l3 l4)) n9
  have le5 : h.le h5 := PH.le_trans le2 (PH.le_trans l3 (PH.le_trans l4 l5))
  clear n7 l3 f7 n8 l4 f8 n9 l5 le2 r
  replace g7 : h5 b7 = some (.cells (bArr ck0.opens) 103 (0, 0)) := g7
  replace g8 : h5 b8 = some (.cells (iArr ck0.calls) 104 (0, 0)) := g8
  replace f9 : h5 b9 = some (.cells (iArr ck0.commits) 104 (0, 0)) := f9
  refine (meets_gAll r5 (by omega)).mono ?_
  rintro v h6 hv
  obtain ⟨q, c3, T, rfl, l6, nT, at6⟩ := efresh_ens hv
  have f7 := l6 _ _ g7
  have f8 := l6 _ _ g8
  have f9' := l6 _ _ f9
  have offT : ∀ x ∈ T, x ∉ [b7, b8, b9] := fun x hx hm => by
    have := nT x hx
    simp only [List.mem_cons, List.not_mem_nil, or_false] at hm
    rcases hm with rfl | rfl | rfl
    · rw [g7] at this; cases this
    · rw [g8] at this; cases this
    · rw [f9] at this; cases this
  have ents : EnsAt (h6.cut [b7, b8, b9]) q g.entries := at6 _ fun b hb => PH.cut_at (offT b hb)
  have lec : h.le (h6.cut [b7, b8, b9]) := fun x O hx => by
    have hm : x ∉ [b7, b8, b9] := fun hm => by
      simp only [List.mem_cons, List.not_mem_nil, or_false] at hm
      rcases hm with rfl | rfl | rfl
      · rw [m7] at hx; cases hx
      · rw [m8] at hx; cases hx
      · rw [m9] at hx; cases hx
    rw [PH.cut_at hm]; exact l6 _ _ (le5 _ _ hx)
  have cutle : (h6.cut [b7, b8, b9]).le h6 := PH.cut_le _ _
  have cno : ∀ b ∈ [b7, b8, b9], (h6.cut [b7, b8, b9]) b = none := fun b hb => by simp only [PH.cut, hb, if_true]
  generalize h6.cut [b7, b8, b9] = hc0 at ents lec cutle cno
  clear hv at6 nT offT l6 g7 g8 f9 le5 m7 m8 m9 r5
  simp only [oS_some]
  generalize hes : g.entries = es at ents hck len
  have kc : hc0 b7 = none ∧ hc0 b8 = none ∧ hc0 b9 = none := ⟨cno _ (by simp), cno _ (by simp), cno _ (by simp)⟩
  clear cno hes hG
  -- what is known between rounds
  let I : Nat → PH → Prop := fun k h' => ∃ c : Ck, (es.take k).foldlM Ck.step ck0 = some c ∧ (c.opens.length = 4 ∧ c.calls.length = 4 ∧ c.commits.length = 4) ∧ h' b7 = some (.cells (bArr c.opens) 103 (0, 0)) ∧ h' b8 = some (.cells (iArr c.calls) 104 (0, 0)) ∧ h' b9 = some (.cells (iArr c.commits) 104 (0, 0)) ∧ hc0.le h'
  have base : I 0 h6 := ⟨ck0, rfl, ⟨rfl, rfl, rfl⟩, f7, f8, f9', cutle⟩
  refine xBlk_split (fun h' => hc0.le h') ?_ fun K hK => ?_
  · intro h7 l7
    refine meets_alive15.look ?_
    simp only [oB_some]
    exact ⟨by trivial, PH.le_trans lec l7⟩
  refine xLoop1 (fun (i : Int) h' => 0 ≤ i ∧ i ≤ es.length ∧ I i.toNat h') (fun (i : Int) _ => ((es.length : Int) - i).toNat) ?_ ⟨by omega, by omega, base⟩
  rintro J i h7 ⟨i0, i1, ck1, hk1, ⟨q1, q2, q3⟩, e7, e8, e9, lc⟩ hJ
  refine ⟨fun hx => ?_, fun hx => hK _ lc⟩
  have hx := of_decide_eq_true hx
  have hw : IntKind.wrap .i64 (i + 1) = i + 1 := wrap64_id (by omega) (by omega)
  have hmu : ((es.length : Int) - (i + 1)).toNat < ((es.length : Int) - i).toNat := by omega
  have hi : i.toNat < es.length := by omega
  have hi1 : (i + 1).toNat = i.toNat + 1 := by omega
  have step : ∀ h', I (i.toNat + 1) h' → J (i + 1) h' := fun h' k' => hJ _ _ ⟨by omega, by omega, by rw [hi1]; exact k'⟩ hmu
  obtain ⟨cm, cm', s1, s2, s3⟩ := foldlM_prefix Ck.step es ck0 _ hck i.toNat hi
  rw [hk1] at s1
  simp only [Option.some.injEq] at s1
  subst s1
  obtain ⟨p1, p2, p3⟩ := ck_len s2 q1 q2 q3
  obtain ⟨b, rfl, hcell⟩ := (ents.le lc).at_ i.toNat es[i.toNat] (List.getElem?_eq_getElem hi)
  generalize es[i.toNat] = e at hcell s2
  have c0 := hcell 0 _ rfl
  have c1 := hcell 1 _ rfl
  have c2 := hcell 2 _ rfl
  have c3 := hcell 3 _ rfl
  have c4 := hcell 4 _ rfl
  have c5 := hcell 5 _ rfl
  have c6 := hcell 6 _ rfl
  have c7 := hcell 7 _ rfl
  have c8 := hcell 8 _ rfl
  have c9 := hcell 9 _ rfl
  have c10 := hcell 10 _ rfl
  have c11 := hcell 11 _ rfl
  have c12 := hcell 12 _ rfl
  clear hcell hJ hmu hK hi1
  refine xBlk_split (fun h' => h' b7 = some (.cells (bArr cm'.opens) 103 (0, 0)) ∧ h' b8 = some (.cells (iArr cm'.calls) 104 (0, 0)) ∧ h' b9 = some (.cells (iArr cm'.commits) 104 (0, 0)) ∧ hc0.le h') (fun h' ⟨a1, a2, a3, a4⟩ => by rw [hw]; exact step h' ⟨cm', s3, ⟨p1, p2, p3⟩, a1, a2, a3, a4⟩) fun K hK => ?_
  refine ⟨b, rfl, i0, hx, ?_⟩
  simp only [c0, c1, c2, c3, c4, c5, c6, c7, c8, c9, c10, c11, c12, oI_some]
  clear c0 c1 c2 c3 c4 c5 c6 c7 c8 c9 c10 c11 c12 step
  intro b11 n11
  refine xSt_mk (PH.upd_same _ _ _) rfl (by decide) (by simp [oneCell]) (by simp) ?_
  rw [PH.upd_upd, setN_all _ _ (by rfl)]
  have l8 := PH.le_upd (O := .cells #[.int .i64 e.kind, .int .i64 e.thread, .int .i64 e.number, .int .i64 e.op.kind, .int .i64 e.op.obj, .int .i64 e.op.arg, .int .i64 e.event.kind, .int .i64 e.event.thread, .int .i64 e.event.obj, .int .i64 e.event.arg, .int .i64 e.event.err, .int .i64 e.value, .int .i64 e.err] 90 (0, 0)) n11
  have e11 := PH.upd_same h7 b11 (.cells #[.int .i64 e.kind, .int .i64 e.thread, .int .i64 e.number, .int .i64 e.op.kind, .int .i64 e.op.obj, .int .i64 e.op.arg, .int .i64 e.event.kind, .int .i64 e.event.thread, .int .i64 e.event.obj, .int .i64 e.event.arg, .int .i64 e.event.err, .int .i64 e.value, .int .i64 e.err] 90 (0, 0))
  have d7 : b7 ≠ b11 := ne_of_known e7 n11
  have d8 : b8 ≠ b11 := ne_of_known e8 n11
  have d9 : b9 ≠ b11 := ne_of_known e9 n11
  replace e7 := l8 _ _ e7
  replace e8 := l8 _ _ e8
  replace e9 := l8 _ _ e9
  replace lc := PH.le_trans lc l8
  generalize h7.upd b11 (.cells #[.int .i64 e.kind, .int .i64 e.thread, .int .i64 e.number, .int .i64 e.op.kind, .int .i64 e.op.obj, .int .i64 e.op.arg, .int .i64 e.event.kind, .int .i64 e.event.thread, .int .i64 e.event.obj, .int .i64 e.event.arg, .int .i64 e.event.err, .int .i64 e.value, .int .i64 e.err] 90 (0, 0)) = h8 at e11 e7 e8 e9 lc ⊢
  clear l8 n11
  simp only [xNn_some, add_mk, cell_mk, upd_at, del_at, if_true, if_false, Option.bind_some, List.getElem?_toArray, List.getElem?_cons_succ, List.getElem?_cons_zero, oI_some, oS_some, oM_some, oB_some, oP_some, oT_some, xIdx_some, Nat.zero_add, Nat.add_zero, Nat.mul_one, e11]
  unfold Ck.step at s2
  split at s2
  · cases s2
  rename_i hr
  have hr : (decide (e.thread < 0) || decide (e.thread > 3)) = false := by simpa using hr
  have r0 : 0 ≤ e.thread ∧ e.thread < 4 := by simp at hr; omega
  have r1 : e.thread.toNat < 4 := by omega
  have u7 : (bArr ck1.opens)[e.thread.toNat]? = some (.bool (ck1.o e.thread)) := bArr_get (by omega)
  have u8 : (iArr ck1.calls)[e.thread.toNat]? = some (.int .i64 (ck1.n e.thread)) := iArr_get (by omega)
  have u9 : (iArr ck1.commits)[e.thread.toNat]? = some (.int .i64 (ck1.k e.thread)) := iArr_get (by omega)
  have z7 : (bArr ck1.opens).size = 4 := by simp [bArr, q1]
  have z8 : (iArr ck1.calls).size = 4 := by simp [iArr, q2]
  have z9 : (iArr ck1.commits).size = 4 := by simp [iArr, q3]
  have hr1 : decide (e.thread < 0) = false := by simp; omega
  have hr2 : decide (e.thread > 3) = false := by simp; omega
  rw [hr1, hr2]
  refine xSc_or false (fun _ J hJ => hJ) ⟨fun hx => (by cases hx), fun _ => ?_⟩
  simp only [xNn_some, add_mk, cell_mk, upd_at, del_at, if_true, if_false, Option.bind_some, List.getElem?_toArray, List.getElem?_cons_succ, List.getElem?_cons_zero, oI_some, oS_some, oM_some, oB_some, oP_some, oT_some, xIdx_some, Nat.zero_add, Nat.add_zero, Nat.mul_one, e11, xBlk, xIdxA]
  refine ⟨fun hk1 => ?_, fun hk1 => ?_⟩
  · -- a Call
    have hk1 := beq_iff_eq.1 hk1
    rw [if_pos hk1] at s2
    split at s2
    · cases s2
    rename_i hb
    simp only [Bool.or_eq_true, not_or, Bool.not_eq_true] at hb
    simp only [Option.some.injEq] at s2
    subst s2
    refine xDraw_self ?_
    simp only [xNn_some, add_mk, cell_mk, upd_at, del_at, if_true, if_false, Option.bind_some, List.getElem?_toArray, List.getElem?_cons_succ, List.getElem?_cons_zero, oI_some, oS_some, oM_some, oB_some, oP_some, oT_some, xIdx_some, Nat.zero_add, Nat.add_zero, Nat.mul_one, e11, e7, e8, e9, u7, u8, u9, hb.1]
    refine ⟨⟨r0.1, r0.2⟩, ?_⟩
    refine xSc_or false (fun _ J hJ => ?_) ⟨fun hx => (by cases hx), fun _ => ?_⟩
    · simp only [xNn_some, add_mk, cell_mk, upd_at, del_at, if_true, if_false, Option.bind_some, List.getElem?_toArray, List.getElem?_cons_succ, List.getElem?_cons_zero, oI_some, oS_some, oM_some, oB_some, oP_some, oT_some, xIdx_some, Nat.zero_add, Nat.add_zero, Nat.mul_one, e11, e7, e8, e9, u7, u8, u9, hb.2]
      exact ⟨⟨r0.1, r0.2⟩, hJ⟩
    refine ⟨⟨r0.1, r0.2⟩, ?_⟩
    refine xSt_mk e7 rfl (by decide) (by simp [oneCell]) (by rw [z7]; simp; omega) ?_
    rw [bArr_set]
    refine ⟨⟨r0.1, r0.2⟩, ?_⟩
    refine xSt_mk ((PH.upd_ne _ _ (Ne.symm n79)).trans e9) rfl (by decide) (by simp [oneCell]) (by rw [z9]; simp; omega) ?_
    rw [iArr_set]
    simp only [xNn_some, add_mk, cell_mk, upd_at, del_at, if_true, if_false, Option.bind_some, List.getElem?_toArray, List.getElem?_cons_succ, List.getElem?_cons_zero, oI_some, oS_some, oM_some, oB_some, oP_some, oT_some, xIdx_some, Nat.zero_add, Nat.add_zero, Nat.mul_one, n78, n89, n79, Ne.symm n78, Ne.symm n79, Ne.symm n89, e8, u8]
    refine ⟨⟨r0.1, r0.2⟩, ⟨r0.1, r0.2⟩, ?_⟩
    refine xSt_mk ((PH.upd_ne _ _ n89).trans ((PH.upd_ne _ _ (Ne.symm n78)).trans e8)) rfl (by decide) (by simp [oneCell]) (by rw [z8]; simp; omega) ?_
    rw [iArr_set]
    refine hK _ ⟨(PH.upd_ne _ _ n78).trans ((PH.upd_ne _ _ n79).trans (PH.upd_same _ _ _)), PH.upd_same _ _ _, (PH.upd_ne _ _ (Ne.symm n89)).trans (PH.upd_same _ _ _), ?_⟩
    exact upd_le_upd kc.2.1 (upd_le_upd kc.2.2 (upd_le_upd kc.1 lc))
  have h1 : e.kind ≠ 1 := by simpa using hk1
  rw [if_neg h1] at s2
  refine ⟨fun hk2 => ?_, fun hk2 => ?_⟩
  · -- a Commit
    have hk2 := beq_iff_eq.1 hk2
    rw [if_pos hk2] at s2
    split at s2
    rotate_left
    · cases s2
    rename_i hb
    simp only [Option.some.injEq] at s2
    subst s2
    simp only [xNn_some, add_mk, cell_mk, upd_at, del_at, if_true, if_false, Option.bind_some, List.getElem?_toArray, List.getElem?_cons_succ, List.getElem?_cons_zero, oI_some, oS_some, oM_some, oB_some, oP_some, oT_some, xIdx_some, Nat.zero_add, Nat.add_zero, Nat.mul_one, e11, e7, e8, e9, u7, u8, u9, hb]
    refine ⟨⟨r0.1, r0.2⟩, fun hx => (by cases hx), fun _ => ?_⟩
    refine ⟨⟨r0.1, r0.2⟩, ?_⟩
    simp only [xNn_some, add_mk, cell_mk, upd_at, del_at, if_true, if_false, Option.bind_some, List.getElem?_toArray, List.getElem?_cons_succ, List.getElem?_cons_zero, oI_some, oS_some, oM_some, oB_some, oP_some, oT_some, xIdx_some, Nat.zero_add, Nat.add_zero, Nat.mul_one, e11, e7, e8, e9, u7, u8, u9]
    refine ⟨⟨r0.1, r0.2⟩, ?_⟩
    refine xSt_mk e9 rfl (by decide) (by simp [oneCell]) (by rw [z9]; simp; omega) ?_
    rw [iArr_set]
    refine hK _ ⟨(PH.upd_ne _ _ n79).trans e7, (PH.upd_ne _ _ n89).trans e8, PH.upd_same _ _ _, ?_⟩
    exact upd_le_upd kc.2.2 lc
  have h2 : e.kind ≠ 2 := by simpa using hk2
  rw [if_neg h2] at s2
  split at s2
  · cases s2
  rename_i hb
  simp only [Bool.or_eq_true, not_or, Bool.not_eq_true, Bool.not_eq_false'] at hb
  obtain ⟨⟨b1, b2⟩, b3⟩ := hb
  have b1 : ck1.o e.thread = true := by simpa using b1
  simp only [Option.some.injEq] at s2
  subst s2
  refine xDraw_self ?_
  simp only [xNn_some, add_mk, cell_mk, upd_at, del_at, if_true, if_false, Option.bind_some, List.getElem?_toArray, List.getElem?_cons_succ, List.getElem?_cons_zero, oI_some, oS_some, oM_some, oB_some, oP_some, oT_some, xIdx_some, Nat.zero_add, Nat.add_zero, Nat.mul_one, e11, e7, e8, e9, u7, u8, u9, b1]
  refine ⟨⟨r0.1, r0.2⟩, ?_⟩
  refine xSc_or false (fun _ J hJ => ?_) ?_
  · simp only [xNn_some, add_mk, cell_mk, upd_at, del_at, if_true, if_false, Option.bind_some, List.getElem?_toArray, List.getElem?_cons_succ, List.getElem?_cons_zero, oI_some, oS_some, oM_some, oB_some, oP_some, oT_some, xIdx_some, Nat.zero_add, Nat.add_zero, Nat.mul_one, e11, e7, e8, e9, u7, u8, u9, b2]
    exact ⟨⟨r0.1, r0.2⟩, hJ⟩
  refine xSc_or false (fun _ J hJ => ?_) ⟨fun hx => (by cases hx), fun _ => ?_⟩
  · simp only [xNn_some, add_mk, cell_mk, upd_at, del_at, if_true, if_false, Option.bind_some, List.getElem?_toArray, List.getElem?_cons_succ, List.getElem?_cons_zero, oI_some, oS_some, oM_some, oB_some, oP_some, oT_some, xIdx_some, Nat.zero_add, Nat.add_zero, Nat.mul_one, e11, e7, e8, e9, u7, u8, u9, b3]
    exact ⟨⟨r0.1, r0.2⟩, hJ⟩
  refine ⟨⟨r0.1, r0.2⟩, ?_⟩
  refine xSt_mk e7 rfl (by decide) (by simp [oneCell]) (by rw [z7]; simp; omega) ?_
  rw [bArr_set]
  exact hK _ ⟨PH.upd_same _ _ _, (PH.upd_ne _ _ (Ne.symm n78)).trans e8, (PH.upd_ne _ _ (Ne.symm n79)).trans e9, upd_le_upd kc.1 lc⟩

end Go.Gh
