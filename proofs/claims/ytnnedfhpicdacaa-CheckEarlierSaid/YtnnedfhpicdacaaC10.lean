/-
  The walk of CheckEarlier.
-/
import Derived.Test.YtnnedfhpicdacaaC9
set_option linter.unusedSimpArgs false
set_option linter.unusedVariables false
namespace Go.Ck
open Go Go.Sx Go.Md Go.Proofs Go.Proofs.Ytnnedfhpicdacaa

theorem row_lit {h : PH} {b : Nat} {l : List Cl} {O : Array Value} (e : h b = some (.cells O 61 (0, 0))) (ho : O = recArr clL l []) : ClsAt h (some ⟨b, 0, none⟩) l := by
  subst ho
  exact RowIn.recs (n := l.length) (c := l.length) (S := [b]) clL_len ⟨rfl, .inr ⟨b, [], rfl, e, Nat.le_refl _, by simp, rfl⟩⟩
theorem ints_at {h : PH} {p : Option Addr} {n c : Nat} {l : List Int} {S : List Nat} (i : IntsIn h p n c l S) {k : Nat} (hk : k < l.length) : ∃ b, p = some b ∧ h.cell (b.add (k * 1)) = some (.int .i64 l[k]) := by
  obtain ⟨rfl, ⟨rfl, _⟩ | ⟨b, junk, rfl, hb, hc, hj, rfl⟩⟩ := i
  · simp at hk
  · refine ⟨_, rfl, ?_⟩
    rw [add_mk, cellAt hb, Nat.zero_add, Nat.mul_one, intArr_get hk]

def aA : Cl := ⟨⟨1, 0, 0, 0, 0⟩, 0, 9⟩
def aB : Cl := ⟨⟨1, 1, 0, 0, 0⟩, 1, 9⟩
def aX : Cl := ⟨⟨3, 0, 0, 0, 0⟩, 2, 9⟩

theorem meets_alive23 {h : PH} : Meets Try.prog 24 #[] h fun v h' => v = .bool true ∧ h' = h := by
  apply Meets.same
  apply P_law23_alive_of
  unfold P_law23_alive
  have k1 : (askO 2 1 1 [aA, aB]).isSome = false := by kernel_rfl
  have k2 : askE 2 1 1 [aA, aB] = 0 := by kernel_rfl
  have k3 : (askO 2 1 1 [aB, aA, aX]).getD [] = [1, 2, 0] := by kernel_rfl
  have k4 : askE 2 1 1 [aB, aA, aX] = 0 := by kernel_rfl
  refine xBox rfl rfl rfl (by decide) (clL_one aA) fun b1 h1 l1 n1 e1 => ?_
  refine xBox rfl rfl rfl (by decide) (clL_one aB) fun b2 h2 l2 n2 e2 => ?_
  refine xBox rfl rfl rfl (by decide) (clL_one aX) fun b3 h3 l3 n3 e3 => ?_
  have f1 := l3 _ _ (l2 _ _ e1)
  have f2 := l3 _ _ e2
  simp only [xNn_some, add_mk, cell_mk, upd_at, del_at, if_true, if_false, Option.bind_some, List.getElem?_toArray, List.getElem?_cons_succ, List.getElem?_cons_zero, oI_some, oS_some, oM_some, oB_some, oP_some, oT_some, xIdx_some, Nat.zero_add, Nat.add_zero, Nat.mul_one, f1, f2, e3]
  refine xNew_intro fun b17 h4 l4 n4 e4 => ?_
  refine (meets_Can (row_lit (l := [aA, aB]) e4 rfl) rfl (by decide) 2 1 1).look ?_
  rw [k1, k2]
  simp only [oTup_mk, oIx_some, oB_some, oI_some, List.getElem?_toArray, List.getElem?_cons_zero, List.getElem?_cons_succ]
  have g1 := l4 _ _ f1
  have g2 := l4 _ _ f2
  have g3 := l4 _ _ e3
  refine ⟨rfl, ?_⟩
  simp only [xNn_some, add_mk, cell_mk, upd_at, del_at, if_true, if_false, Option.bind_some, List.getElem?_toArray, List.getElem?_cons_succ, List.getElem?_cons_zero, oI_some, oS_some, oM_some, oB_some, oP_some, oT_some, xIdx_some, Nat.zero_add, Nat.add_zero, Nat.mul_one, g1, g2, g3]
  refine xNew_intro fun b25 h5 l5 n5 e5 => ?_
  refine (meets_Order (row_lit (l := [aB, aA, aX]) e5 rfl) rfl (by decide) 2 1 1).mono ?_
  rintro _ h6 ⟨l6, p, k, c', S, rfl, ints, nS⟩
  rw [k3] at ints
  rw [k4]
  have hk : k = 3 := ints.1
  subst hk
  simp only [oTup_mk, oIx_some, oS_some, oB_some, oI_some, List.getElem?_toArray, List.getElem?_cons_zero, List.getElem?_cons_succ]
  refine ⟨rfl, ?_⟩
  refine xSc_and true (fun _ J hJ => hJ) ?_
  refine xSc_and true (fun _ J hJ => hJ) ?_
  refine xSc_and true (fun _ J hJ => hJ) ?_
  refine xSc_and true (fun _ J hJ => ?_) ?_
  · obtain ⟨b, hb, hc⟩ := ints_at ints (k := 0) (by decide)
    refine ⟨b, hb, by decide, by decide, ?_⟩
    have hc' : h6.cell (b.add (Int.toNat 0 * 1)) = some (.int .i64 1) := hc
    simp only [hc', oI_some]
    exact hJ
  refine xSc_and true (fun _ J hJ => ?_) ?_
  · obtain ⟨b, hb, hc⟩ := ints_at ints (k := 1) (by decide)
    refine ⟨b, hb, by decide, by decide, ?_⟩
    have hc' : h6.cell (b.add (Int.toNat 1 * 1)) = some (.int .i64 2) := hc
    simp only [hc', oI_some]
    exact hJ
  refine xSc_and true (fun _ J hJ => ?_) ⟨by trivial, PH.le_trans l1 (PH.le_trans l2 (PH.le_trans l3 (PH.le_trans l4 (PH.le_trans l5 l6))))⟩
  · obtain ⟨b, hb, hc⟩ := ints_at ints (k := 2) (by decide)
    refine ⟨b, hb, by decide, by decide, ?_⟩
    have hc' : h6.cell (b.add (Int.toNat 2 * 1)) = some (.int .i64 0) := hc
    simp only [hc', oI_some]
    exact hJ

/-! ### Who was met -/
theorem findE_append (k : Value) : ∀ (l m : List MapEntry) (i : Nat), findE (l ++ m) k i = (findE l k i).or (findE m k (i + l.length)) := by
  intro l
  induction l with
  | nil => intro m i; simp [findE]
  | cons e l ih =>
    intro m i
    simp only [List.cons_append, findE]
    split
    · simp
    · rw [ih, List.length_cons]
      congr 2
      omega
def MetAt (h : PH) (b : Nat) (ks : List Nat) : Prop := ∃ es cl, h b = some (.map es cl) ∧ (∀ e ∈ es.toList, isKeyI .i64 (MapEntry.key e)) ∧ ∀ k : Nat, mapGet es (.int .i64 (k : Int)) = if k ∈ ks then some (.bool true) else none
theorem MetAt.le {h h' : PH} {b : Nat} {ks : List Nat} (x : MetAt h b ks) (le : h.le h') : MetAt h' b ks := by
  obtain ⟨es, cl, e, hk, hg⟩ := x; exact ⟨es, cl, le _ _ e, hk, hg⟩
theorem law_int : KeyLaw Try.prog 3 (isKeyI .i64) := keyLawInt Try.underlying3
theorem MetAt.look {h : PH} {b : Nat} {ks : List Nat} (x : MetAt h b ks) (k : Nat) {K : Option Value → Prop} (kk : K (if k ∈ ks then some (.bool true) else none)) : xLook Try.prog 3 h (some b) (.int .i64 (k : Int)) K := by
  obtain ⟨es, cl, e, hk, hg⟩ := x
  refine .inl ⟨b, es, cl, _, rfl, e, law_int, ⟨_, rfl⟩, hk, ?_⟩
  rw [hg]; exact kk
theorem MetAt.put {h : PH} {b : Nat} {ks : List Nat} (x : MetAt h b ks) {k : Nat} (nk : k ∉ ks) {K : PH → Prop} (kk : ∀ O, MetAt (h.upd b O) b (ks ++ [k]) → K (h.upd b O)) : xPut Try.prog 3 h (some b) (.int .i64 (k : Int)) (.bool true) K := by
  obtain ⟨es, cl, e, hk, hg⟩ := x
  refine ⟨b, es, cl, _, rfl, e, law_int, ⟨_, rfl⟩, hk, kk _ ?_⟩
  have hn := hg k
  rw [if_neg nk] at hn
  have hf : findE es.toList (.int .i64 (k : Int)) 0 = none := by
    unfold mapGet at hn
    cases hx : findE es.toList (.int .i64 (k : Int)) 0 with
    | none => rfl
    | some r => rw [hx] at hn; cases hn
  have hp : mapPut es cl (.int .i64 (k : Int)) (.bool true) = .map (es.push { key := .int .i64 (k : Int), val := .bool true, born := cl }) (cl + 1) := by unfold mapPut; rw [hf]
  rw [hp]
  refine ⟨_, _, PH.upd_same _ _ _, ?_, ?_⟩
  · intro en he
    rw [Array.toList_push, List.mem_append] at he
    rcases he with he | he
    · exact hk en he
    · simp at he; subst he; exact ⟨_, rfl⟩
  · intro q
    have := hg q
    unfold mapGet at this ⊢
    rw [Array.toList_push, findE_append]
    cases hx : findE es.toList (.int .i64 (q : Int)) 0 with
    | some r =>
      rw [hx] at this
      rw [Option.some_or]
      by_cases hm : q ∈ ks
      · rw [if_pos hm] at this; rw [if_pos (by simp [hm])]; exact this
      · rw [if_neg hm] at this; cases this
    | none =>
      rw [hx] at this
      have hm : q ∉ ks := fun hm => by rw [if_pos hm] at this; cases this
      rw [Option.none_or]
      simp only [findE, sameBits_int]
      by_cases e : q = k
      · subst e; simp
      · have : ((q : Int) == (k : Int)) = false := by simp; omega
        simp [this, hm, e]

theorem ser_all : ∀ (P : List Cl) (s : Ms), (∀ j, j < P.length → ((P.take j).foldl (fun s c => s.next c.event) s).code (cl P j).event = 0) → ser s P = (P.length, true) := by
  intro P
  induction P with
  | nil => intro s _; rfl
  | cons c P ih =>
    intro s h
    have h0 := h 0 (by simp)
    have : s.code c.event = 0 := h0
    rw [ser_cons, if_pos this, ih (s.next c.event) fun j hj => h (j + 1) (by simpa using hj)]
    simp

set_option maxHeartbeats 4000000 in
theorem meets_CheckEarlier {h : PH} {a : Option Addr} {n c : Nat} {l : List Cl} (x : ClsAt h a l) (hl : l.length = n) :
    Meets Try.prog 7 #[.slice a n c] h fun v h' => v = .bool true ∧ h' = h := by
  apply Meets.same
  apply P_law23_CheckEarlier_of
  unfold P_law23_CheckEarlier
  refine ⟨fun _ => ?_, fun h8 => ?_⟩
  · refine meets_alive23.look ?_
    simp only [oB_some]
    exact ⟨by trivial, PH.le_refl _⟩
  have h8 : n ≤ 8 := by have := of_decide_eq_false h8; omega
  refine (meets_theirs23 x hl (by omega)).mono ?_
  rintro _ h1 ⟨p1, c1, S1, rfl, row, l1, nS1⟩
  simp only [oS_some]
  have xc := row.recs clL_len
  refine (meets_Order xc hl (by omega) 3 2 3).mono ?_
  rintro _ h2 ⟨l2, p2, n2, c2, S2, rfl, ints, nS2⟩
  simp only [oTup_mk, oIx_some, oS_some, oB_some, oI_some, List.getElem?_toArray, List.getElem?_cons_zero, List.getElem?_cons_succ]
  refine ⟨rfl, ?_⟩
  have le2 := PH.le_trans l1 l2
  refine xSc_or (((n2 : Nat) : Int) != ((n : Nat) : Int)) (fun _ J hJ => hJ) ⟨fun _ => ?_, fun hx => ?_⟩
  · refine meets_alive23.look ?_
    simp only [oB_some]
    exact ⟨by trivial, le2⟩
  simp only [Bool.or_eq_false_iff, bne_eq_false_iff_eq] at hx
  obtain ⟨e0, en⟩ := hx
  have en : n2 = n := by omega
  subst en
  -- the order
  have hord : askO 3 2 3 l = srch l l.length 0 (Ms.new 3 2 3) := by unfold askO; rw [if_pos e0]
  have hcase := askE_cases 3 2 3 l
  have may : l.all Cl.may = true := by
    rcases hcase with h | h | h | h
    · rw [h.2] at e0; cases e0
    · rw [h.2.2] at e0; cases e0
    · exact h.2.1
    · exact h.2.1
  rw [hord] at ints
  have lenks := ints.1
  simp only [List.length_map] at lenks
  cases hks : srch l l.length 0 (Ms.new 3 2 3) with
  | none =>
    rw [hks] at ints lenks
    have n0 : n2 = 0 := by simpa using lenks
    subst n0
    refine xNew_intro fun b37 h3 l3 n37 e37 => ?_
    refine xBlk_split (fun h' => h3.le h') ?_ fun K hK => ?_
    · intro h4 l4
      refine meets_alive23.look ?_
      simp only [oB_some]
      exact ⟨by trivial, PH.le_trans le2 (PH.le_trans l3 l4)⟩
    refine xLoop4 (fun _ _ _ (i : Int) h' => i = 0 ∧ h' = h3) (fun _ _ _ _ _ => 0) ?_ ⟨rfl, rfl⟩
    rintro J q1 q2 q3 i _ ⟨rfl, rfl⟩ hJ
    exact ⟨fun hx => (by simp at hx), fun _ => hK _ (PH.le_refl _)⟩
  | some ks =>
  rw [hks] at ints lenks
  simp only [Option.getD_some] at ints lenks
  have V := srch_valid l.length 0 (Ms.new 3 2 3) ks (left_start l) hks
  have nw := fun j (hj : j < ks.length) => valid_new V hj
  clear hks hord
  refine xNew_intro fun b37 h3 l3 n37 e37 => ?_
  have met0 : MetAt h3 b37 [] := ⟨#[], 0, e37, by simp, fun k => by simp [mapGet, findE]⟩
  have le3 := PH.le_trans le2 l3
  have xc3 := (xc.le l2)
  have inth3 := ints
  refine xBlk_split (fun h' => h2.le h') ?_ fun K hK => ?_
  · intro h4 l4
    refine meets_alive23.look ?_
    simp only [oB_some]
    exact ⟨by trivial, PH.le_trans le2 l4⟩
  refine xLoop4 (fun p m c' (i : Int) h' => 0 ≤ i ∧ i ≤ n2 ∧ h2.le h' ∧ MetAt h' b37 (ks.take i.toNat) ∧ ∃ S, RowIn clL 7 61 h' p m c' ((ks.take i.toNat).map (cl l)) S ∧ ∀ b ∈ S, h2 b = none ∧ b ≠ b37) (fun _ _ _ (i : Int) _ => ((n2 : Int) - i).toNat) ?_
    ⟨by omega, by omega, l3, by simpa using met0, [], by simpa using RowIn.nil _ _, by simp⟩
  rintro J p m c' i h4 ⟨i0, i1, l4, met, S, rw, nS⟩ hJ
  refine ⟨fun hx => ?_, fun hx => hK _ l4⟩
  have hx := of_decide_eq_true hx
  have hw : IntKind.wrap .i64 (i + 1) = i + 1 := wrap64_id (by omega) (by omega)
  have hi : i.toNat < ks.length := by omega
  have step : ∀ p' m' c' h', h2.le h' → MetAt h' b37 (ks.take (i.toNat + 1)) → (∃ S, RowIn clL 7 61 h' p' m' c' ((ks.take (i.toNat + 1)).map (cl l)) S ∧ ∀ b ∈ S, h2 b = none ∧ b ≠ b37) → J p' m' c' (i + 1) h' := fun p' m' c' h' q1 q2 q3 => hJ _ _ _ _ _ ⟨by omega, by omega, q1, by rw [show (i + 1).toNat = i.toNat + 1 from by omega]; exact q2, by rw [show (i + 1).toNat = i.toNat + 1 from by omega]; exact q3⟩ (by omega)
  obtain ⟨w1, w2, w3⟩ := nw i.toNat hi
  have tk : ks.take (i.toNat + 1) = ks.take i.toNat ++ [ks[i.toNat]] := List.take_succ_eq_append_getElem hi
  have pser := fun j hj => prefix_serial V (i.toNat + 1) j (by omega) hj
  have pval := prefix_valid V (i.toNat + 1) (by omega)
  clear hJ hK
  obtain ⟨b, hb, hcell⟩ := ints_at ints (k := i.toNat) (by simpa using hi)
  have hcell4 := PH.cell_le l4 hcell
  simp only [List.getElem_map] at hcell4
  generalize hk : ks[i.toNat] = k at hcell4 w1 w2 w3 tk
  refine xBlk_split3 (fun p' m' c' h' => h2.le h' ∧ MetAt h' b37 (ks.take (i.toNat + 1)) ∧ ∃ S, RowIn clL 7 61 h' p' m' c' ((ks.take (i.toNat + 1)).map (cl l)) S ∧ ∀ b ∈ S, h2 b = none ∧ b ≠ b37) (fun p' m' c' h' ⟨q1, q2, q3⟩ => by rw [hw]; exact step p' m' c' h' q1 q2 q3) fun K hK => ?_
  clear step
  refine ⟨b, hb, i0, hx, ?_⟩
  simp only [hcell4, oI_some]
  have hkn : (k : Int) < n2 := by omega
  have d1 : decide ((k : Int) < 0) = false := by simp
  have d2 : decide ((k : Int) ≥ (n2 : Int)) = false := by simp; omega
  rw [d1, d2]
  refine xSc_or false (fun _ J hJ => hJ) ?_
  refine xSc_or false (fun _ J hJ => ?_) ⟨fun hx => (by cases hx), fun _ => ?_⟩
  · refine met.look k ?_
    rw [if_neg w2]
    simp only [Option.getD_none, oB_some]
    exact hJ
  -- nobody who is left was over ahead
  refine xBlk_split (fun h' => h4.le h') ?_ fun K2 hK2 => ?_
  rotate_left
  · refine xLoop1 (fun (j : Int) h' => 0 ≤ j ∧ j ≤ n2 ∧ h4.le h') (fun (j : Int) _ => ((n2 : Int) - j).toNat) ?_ ⟨by omega, by omega, PH.le_refl _⟩
    rintro J2 j h5 ⟨j0, j1, l5⟩ hJ2
    refine ⟨fun hy => ?_, fun hy => hK2 _ l5⟩
    have hy := of_decide_eq_true hy
    have hw2 : IntKind.wrap .i64 (j + 1) = j + 1 := wrap64_id (by omega) (by omega)
    have hj : j.toNat < l.length := by omega
    have step : ∀ h', h4.le h' → J2 (j + 1) h' := fun h' l' => hJ2 _ _ ⟨by omega, by omega, l'⟩ (by omega)
    have hjc : j = ((j.toNat : Nat) : Int) := by omega
    generalize hjn : j.toNat = jn at hj hjc
    clear hJ2 hK2
    have le5 := PH.le_trans l4 l5
    obtain ⟨b', hb', c0, c1', c2', c3, c4, c5, c6⟩ := cls_at (xc3.le le5) (List.getElem?_eq_getElem hj)
    have hcl : cl l jn = l[jn] := by simp [cl, List.getD_eq_getElem?_getD, hj]
    rw [← hcl] at c0 c1' c2' c3 c4 c5 c6
    refine xBlk_split (fun h' => h4.le h') (fun h' l' => by rw [hw2]; exact step h' l') fun K3 hK3 => ?_
    refine ⟨b', hb', j0, hy, ?_⟩
    simp only [hjn, c0, c1', c2', c3, c4, c5, c6, oI_some]
    refine xBox rfl rfl rfl (by decide) (clL_one (cl l jn)) fun b11 h6 l6 n11 e11 => ?_
    have e11' : h6 b11 = some (.cells (clL (cl l jn)).toArray 61 (0, 0)) := e11
    have le6 := PH.le_trans l5 l6
    refine xDraw_self ?_
    rw [hjc]
    refine (met.le le6).look jn ?_
    have hget : Option.getD (if jn ∈ ks.take i.toNat then some (Value.bool true) else none) (.bool false) = .bool (decide (jn ∈ ks.take i.toNat)) := by
      by_cases hm : jn ∈ ks.take i.toNat <;> simp [hm]
    rw [hget]
    simp only [oB_some]
    have hno : (!decide (jn ∈ ks.take i.toNat) && decide ((cl l jn).to < (cl l k).fr)) = false := by
      by_cases hm : jn ∈ ks.take i.toNat
      · simp [hm]
      · have := w3 jn hj hm
        simp [hm]; omega
    refine xSc_and (((jn : Nat) : Int) != (k : Int)) (fun _ J hJ => hJ) ?_
    refine xSc_and (decide ((cl l jn).to < (cl l k).fr)) (fun _ J hJ => ?_) ?_
    · obtain ⟨b2, hb2, g0, g1, g2, g3, g4, g5, g6⟩ := cls_at (xc3.le (PH.le_trans le5 l6)) (List.getElem?_eq_getElem w1)
      have hcl2 : cl l k = l[k] := by simp [cl, List.getD_eq_getElem?_getD, w1]
      rw [← hcl2] at g0 g1 g2 g3 g4 g5 g6
      simp only [xNn_some, add_mk, cell_mk, upd_at, del_at, if_true, if_false, Option.bind_some, List.getElem?_toArray, List.getElem?_cons_succ, List.getElem?_cons_zero, oI_some, oS_some, oM_some, oB_some, oP_some, oT_some, xIdx_some, Nat.zero_add, Nat.add_zero, Nat.mul_one, e11', clL]
      refine ⟨b2, hb2, by omega, hkn, ?_⟩
      simp only [Int.toNat_natCast, g5, oI_some]
      exact hJ
    refine ⟨fun hx => ?_, fun _ => hK3 _ le6⟩
    exfalso
    revert hno hx
    cases decide (jn ∈ ks.take i.toNat) <;> cases decide ((cl l jn).to < (cl l k).fr) <;> simp
  intro h5 l5
  have le5 := PH.le_trans l4 l5
  have met5 := met.le l5
  have rw5 := rw.le l5
  refine met5.put w2 fun O met6 => ?_
  have n37h2 : h2 b37 = none := n37
  have le6 : h2.le (h5.upd b37 O) := upd_le_upd n37h2 le5
  have rw6 : RowIn clL 7 61 (h5.upd b37 O) p m c' ((ks.take i.toNat).map (cl l)) S := rw5.of fun b hb => PH.upd_ne _ _ (nS b hb).2
  have e37' : ∃ O', (h5.upd b37 O) b37 = some O' := ⟨O, PH.upd_same _ _ _⟩
  rw [← tk] at met6
  generalize h5.upd b37 O = h6 at met6 le6 rw6 e37' ⊢
  obtain ⟨b2, hb2, g0, g1, g2, g3, g4, g5, g6⟩ := cls_at (xc3.le le6) (List.getElem?_eq_getElem w1)
  have hcl2 : cl l k = l[k] := by simp [cl, List.getD_eq_getElem?_getD, w1]
  rw [← hcl2] at g0 g1 g2 g3 g4 g5 g6
  refine ⟨b2, hb2, by omega, hkn, ?_⟩
  simp only [Int.toNat_natCast, g0, g1, g2, g3, g4, g5, g6, oI_some]
  refine xNew_intro fun b91 h7 l7 n91 e91 => ?_
  refine (rw6.le l7).app (x := cl l k) clL_len (clL_one _) e91 (by simp [List.length_take]; omega) ?_
  intro p' m' c'' h8 S' rw8 x8 nS8
  have le8 : h2.le h8 := fun y O hy => x8 y O (l7 y O (le6 y O hy)) fun hm => by rw [(nS y hm).1] at hy; cases hy
  have S37 : b37 ∉ S := fun hm => (nS _ hm).2 rfl
  have met8 : MetAt h8 b37 (ks.take (i.toNat + 1)) := by
    obtain ⟨es, cl', e, hk1, hg⟩ := met6
    exact ⟨es, cl', x8 _ _ (l7 _ _ e) S37, hk1, hg⟩
  have prow : RowIn clL 7 61 h8 p' m' c'' ((ks.take (i.toNat + 1)).map (cl l)) S' := by
    rw [tk, List.map_append]; exact rw8
  have nS' : ∀ b ∈ S', h2 b = none ∧ b ≠ b37 := fun b hb => by
    rcases nS8 b hb with h' | h'
    · exact nS b h'
    · refine ⟨none_of le6 (none_of l7 h'), fun e => ?_⟩
      subst e
      obtain ⟨O', hO'⟩ := e37'
      have := l7 _ _ hO'
      rw [h'] at this; cases this
  generalize hP : (ks.take (i.toNat + 1)).map (cl l) = P at prow pser pval
  have plen : P.length = i.toNat + 1 := by rw [← hP]; simp; omega
  have hm' : m' = i.toNat + 1 := prow.1.trans plen
  have pcls := prow.recs clL_len
  have s1 : ser (Ms.new 3 2 3) P = (i.toNat + 1, true) := by
    have := ser_all P (Ms.new 3 2 3) fun j hj => pser j (by omega)
    rw [this, plen]
  refine (meets_Serial pcls (plen.trans hm'.symm) (by omega) 3 2 3 (by decide) (by decide) (by decide)).look ?_
  rw [s1]
  simp only [oTup_mk, oIx_some, oS_some, oB_some, oI_some, List.getElem?_toArray, List.getElem?_cons_zero, List.getElem?_cons_succ]
  refine ⟨rfl, ?_⟩
  refine xSc_or false (fun _ J hJ => ?_) ⟨fun hx => (by cases hx), fun _ => ?_⟩
  · rw [hm'] at *
    simpa using hJ
  have pmay : P.all Cl.may = true := by
    rw [List.all_eq_true] at may ⊢
    intro y hy
    rw [← hP] at hy
    obtain ⟨q, hq, rfl⟩ := List.mem_map.1 hy
    obtain ⟨t, ht, rfl⟩ := List.getElem_of_mem (List.mem_of_mem_take hq)
    have hq1 := (nw t ht).1
    have : cl l ks[t] = l[ks[t]] := by simp [cl, List.getD_eq_getElem?_getD, hq1]
    rw [this]
    exact may _ (List.getElem_mem hq1)
  have pe0 : askE 3 2 3 P = 0 := by
    rcases askE_cases 3 2 3 P with h | h | h | h
    · exact absurd h.1 (by decide)
    · rw [pmay] at h; cases h.2.1
    · omega
    · exact h.2.2.2
  have psome : (askO 3 2 3 P).isSome = true := by
    unfold askO
    rw [if_pos pe0]
    obtain ⟨ks', hv⟩ := pval
    cases hh : srch P P.length 0 (Ms.new 3 2 3) with
    | none => exact absurd hh (srch_some P.length 0 _ ks' (left_start P) hv)
    | some r => rfl
  refine (meets_Can pcls (plen.trans hm'.symm) (by omega) 3 2 3).look ?_
  rw [psome, pe0]
  simp only [oTup_mk, oIx_some, oS_some, oB_some, oI_some, List.getElem?_toArray, List.getElem?_cons_zero, List.getElem?_cons_succ]
  refine ⟨rfl, ?_⟩
  refine xSc_or false (fun _ J hJ => hJ) ⟨fun hx => (by cases hx), fun _ => ?_⟩
  rw [← hP] at prow
  exact hK _ _ _ _ ⟨le8, met8, S', prow, nS'⟩

end Go.Ck
