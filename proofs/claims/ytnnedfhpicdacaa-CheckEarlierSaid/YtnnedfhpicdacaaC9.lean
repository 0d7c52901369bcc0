/-
  What is asked of calls: ask, Can, Order.
-/
import Derived.Test.YtnnedfhpicdacaaC8
set_option linter.unusedSimpArgs false
set_option linter.unusedVariables false
namespace Go.Ck
open Go Go.Sx Go.Md Go.Proofs Go.Proofs.Ytnnedfhpicdacaa

theorem cost_le : ∀ f, f ≤ 12 → 0 + cost f ≤ 100000000000 := by decide
/-- Which error is told. -/
def askE (t o m : Int) (l : List Cl) : Int := if newOk t o m = false then 1 else if l.all Cl.may = false then 1 else if l.length > 12 then 5 else 0

theorem askE_cases (t o m : Int) (l : List Cl) : (newOk t o m = false ∧ askE t o m l = 1) ∨ (newOk t o m = true ∧ l.all Cl.may = false ∧ askE t o m l = 1) ∨ (newOk t o m = true ∧ l.all Cl.may = true ∧ l.length > 12 ∧ askE t o m l = 5) ∨ (newOk t o m = true ∧ l.all Cl.may = true ∧ l.length ≤ 12 ∧ askE t o m l = 0) := by
  unfold askE
  cases h1 : newOk t o m with
  | false => left; simp
  | true =>
    cases h2 : l.all Cl.may with
    | false => right; left; simp
    | true =>
      by_cases h3 : l.length > 12
      · right; right; left; simp [h3]
      · right; right; right
        have : ¬12 < l.length := by omega
        simp [this]; omega

theorem newOk_rng {t o m : Int} (h : newOk t o m = true) : t ≤ 8 ∧ o ≤ 8 := by
  have hr : (1 ≤ t ∧ t ≤ 8) ∧ (1 ≤ o ∧ o ≤ 8) ∧ (1 ≤ m ∧ m ≤ 60) := by simpa [newOk, inRange] using h
  exact ⟨hr.1.2, hr.2.1.2⟩

/-- An order that is told. -/
def Ordered (h h' : PH) (p : Option Addr) (n c : Nat) (ok : Bool) : Option (List Nat) → Prop
  | none => p = none ∧ n = 0 ∧ c = 0 ∧ ok = false
  | some ks => ok = true ∧ ∃ S, IntsIn h' p n c (ks.map fun (k : Nat) => (k : Int)) S ∧ ∀ b ∈ S, h b = none

set_option maxHeartbeats 1000000 in
theorem meets_ask {h : PH} {a : Option Addr} {n c : Nat} {l : List Cl} (x : ClsAt h a l) (hl : l.length = n) (hn : n ≤ 1000000) (t o m : Int) :
    Meets Try.prog 61 #[.int .i64 t, .int .i64 o, .int .i64 m, .slice a n c] h fun v h' => h.le h' ∧ ∃ p k c' ok, v = .tuple #[.slice p k c', .bool ok, .int .i64 (askE t o m l)] ∧
      Ordered h h' p k c' ok (if askE t o m l = 0 then srch l l.length 0 (Ms.new t o m) else none) := by
  apply P_check_ask_of
  unfold P_check_ask
  have bad : ∀ (h' : PH) (e : Int), h.le h' → e ≠ 0 → askE t o m l = e → h.le h' ∧ ∃ p k c' ok, (Value.tuple #[.slice none 0 0, .bool false, .int .i64 e]) = .tuple #[.slice p k c', .bool ok, .int .i64 (askE t o m l)] ∧
      Ordered h h' p k c' ok (if askE t o m l = 0 then srch l l.length 0 (Ms.new t o m) else none) := by
    intro h' e le hne he
    refine ⟨le, none, 0, 0, false, by rw [he], ?_⟩
    rw [if_neg (by rw [he]; exact hne)]
    exact ⟨rfl, rfl, rfl, rfl⟩
  rcases askE_cases t o m l with ⟨a1, ae⟩ | a1
  · refine (meets_New_no t o m a1).look ?_
    simp only [oTup_mk, oIx_some, oP_some, oI_some, List.getElem?_toArray, List.getElem?_cons_zero, List.getElem?_cons_succ]
    exact ⟨rfl, fun _ => bad _ 1 (PH.le_refl _) (by decide) ae, fun hx => (by cases hx)⟩
  have ok : newOk t o m = true := by rcases a1 with a1 | a1 | a1 <;> exact a1.1
  obtain ⟨ht, ho⟩ := newOk_rng ok
  refine (meets_New t o m ok).mono ?_
  rintro _ h1 ⟨w, rfl, f⟩
  obtain ⟨L, rfl, r, l1, nL⟩ := f
  have k0 := new_ok t o m ht ho
  have fl0 : (Ms.new t o m).Flat := ⟨rfl, rfl⟩
  have hs0 : (if askE t o m l = 0 then srch l l.length 0 (Ms.new t o m) else none) = if askE t o m l = 0 then srch l l.length 0 (Ms.new t o m) else none := rfl
  generalize Ms.new t o m = s0 at r k0 fl0 bad ⊢
  simp only [mp, oTup_mk, oIx_some, oP_some, oI_some, List.getElem?_toArray, List.getElem?_cons_zero, List.getElem?_cons_succ]
  refine ⟨rfl, fun hx => (by cases hx), fun _ => ?_⟩
  refine xBlk_split (fun h' => l.all Cl.may = true ∧ h1.le h') ?_ fun K hK => ?_
  rotate_left
  · refine xLoop1 (fun (i : Int) h' => 0 ≤ i ∧ i ≤ n ∧ (∀ k, (hk : k < i.toNat) → (cl l k).may = true) ∧ h1.le h') (fun (i : Int) _ => ((n : Int) - i).toNat) ?_ ⟨by omega, by omega, fun k hk => (by simp at hk), PH.le_refl _⟩
    rintro J i h2 ⟨i0, i1, pre, l2⟩ hJ
    refine ⟨fun hx => ?_, fun hx => ?_⟩
    · have hx := of_decide_eq_true hx
      have hw : IntKind.wrap .i64 (i + 1) = i + 1 := wrap64_id (by omega) (by omega)
      have hi : i.toNat < l.length := by omega
      have step : ∀ h', (cl l i.toNat).may = true → h1.le h' → J (i + 1) h' := fun h' hm l' => hJ _ _ ⟨by omega, by omega, fun k hk => by
        by_cases e : k = i.toNat
        · rw [e]; exact hm
        · exact pre k (by omega), l'⟩ (by omega)
      obtain ⟨b, rfl, c0, c1, c2, c3, c4, c5, c6⟩ := cls_at (x.le (PH.le_trans l1 l2)) (List.getElem?_eq_getElem hi)
      have hcl : cl l i.toNat = l[i.toNat] := by simp [cl, List.getD_eq_getElem?_getD, hi]
      rw [← hcl] at c0 c1 c2 c3 c4 c5 c6
      clear hJ hK
      refine xBlk_split (fun h' => (cl l i.toNat).may = true ∧ h1.le h') (fun h' ⟨hm, l'⟩ => by rw [hw]; exact step h' hm l') fun K hK => ?_
      clear step
      refine ⟨b, rfl, i0, hx, ?_⟩
      simp only [c0, c1, c2, c3, c4, c5, c6, oI_some]
      refine xBox rfl rfl rfl (by decide) (clL_one (cl l i.toNat)) fun b6 h3 l3 n6 e3 => ?_
      have e3' : h3 b6 = some (.cells (clL (cl l i.toNat)).toArray 61 (0, 0)) := e3
      simp only [xNn_some, add_mk, cell_mk, upd_at, del_at, if_true, if_false, Option.bind_some, List.getElem?_toArray, List.getElem?_cons_succ, List.getElem?_cons_zero, oI_some, oS_some, oM_some, oB_some, oP_some, oT_some, xIdx_some, Nat.zero_add, Nat.add_zero, Nat.mul_one, e3', clL]
      refine (meets_cMay (cl l i.toNat)).look ?_
      simp only [oB_some]
      have le3 := PH.le_trans l2 l3
      refine ⟨fun hb => ?_, fun hb => ?_⟩
      · have hb : (cl l i.toNat).may = false := by simpa using hb
        refine bad _ 1 (PH.le_trans l1 le3) (by decide) ?_
        have : l.all Cl.may = false := by
          rw [List.all_eq_false]
          exact ⟨l[i.toNat], List.getElem_mem hi, by rw [← hcl, hb]; simp⟩
        rcases a1 with a1 | a1 | a1
        · exact a1.2.2
        · rw [this] at a1; cases a1.2.1
        · rw [this] at a1; cases a1.2.1
      · exact hK _ ⟨by simpa using hb, le3⟩
    · have hx := of_decide_eq_false hx
      refine hK _ ⟨?_, l2⟩
      rw [List.all_eq_true]
      intro y hy
      obtain ⟨k, hk, rfl⟩ := List.getElem_of_mem hy
      have := pre k (by omega)
      have hcl : cl l k = l[k] := by simp [cl, List.getD_eq_getElem?_getD, hk]
      rw [hcl] at this; exact this
  rintro h2 ⟨hm, l2⟩
  have le2 := PH.le_trans l1 l2
  refine ⟨fun hx => ?_, fun hx => ?_⟩
  · have hx := of_decide_eq_true hx
    refine bad _ 5 le2 (by decide) ?_
    rcases a1 with a1 | a1 | a1
    · rw [hm] at a1; cases a1.2.1
    · exact a1.2.2.2
    · omega
  have hx := of_decide_eq_false hx
  have e0 : askE t o m l = 0 := by
    rcases a1 with a1 | a1 | a1
    · rw [hm] at a1; cases a1.2.1
    · omega
    · exact a1.2.2.2
  have n12 : l.length ≤ 12 := by omega
  subst hl
  refine (meets_ahead (x.le le2) rfl (by omega)).mono ?_
  rintro _ h3 ⟨p3, c3, S3, rfl, row, l3, n3⟩
  simp only [oS_some]
  refine xNew_intro fun b43 h4 l4 n43 e43 => ?_
  refine xNew_intro fun b45 h5 l5 n45 e45 => ?_
  have r5 := (((r.le l2).le l3).le l4).le l5
  have n435 : b43 ≠ b45 := ne_of_known e43 n45
  have e43' := l5 _ _ e43
  -- what is known but for the map
  have g5 : (h5.cut [b43]).le h5 := PH.cut_le _ _
  have le25 : h2.le h5 := PH.le_trans l3 (PH.le_trans l4 l5)
  have m43 : h3 b43 = none := n43
  have le3c : h3.le (h5.cut [b43]) := fun y O hy => by
    have : y ∉ [b43] := fun hm => by simp at hm; subst hm; rw [m43] at hy; cases hy
    rw [PH.cut_at this]; exact l5 _ _ (l4 _ _ hy)
  have gs : (h5.cut [b43]) b45 = some (.cells #[.slice a l.length c, .slice p3 l.length c3, .map (some b43)] 165 (0, 0)) := by
    rw [PH.cut_at (by simp [Ne.symm n435])]; exact e45
  have dead0 : DeadAt l h5 b43 [b43] 0 := ⟨#[], 0, [], e43', rfl, by simp, rfl, fun i e b hi _ => (by simp at hi)⟩
  have LT : ∀ y ∈ L.all, y ∉ [b43] := fun y hy hm => by
    simp at hm; subst hm
    obtain ⟨O, hO⟩ := (((r.le l2).le l3)).known _ hy
    rw [m43] at hO; cases hO
  have rest := meets_rest (l := l) (by omega) (fun c hc => by have := List.all_eq_true.1 hm; exact this c hc) gs (x.le (PH.le_trans le2 (PH.le_trans l3 le3c))) ((row.recs uL_len).le le3c) l.length h5 [b43] 0 L s0 0 g5 (fun b hb => by simp only [PH.cut, hb, if_true]) dead0 (cost_le _ n12) r5 k0 fl0 LT (by have := Nat.two_pow_pos l.length; omega) (left_start l)
  refine rest.mono ?_
  rintro v h6 ⟨told, T6, _, x6, _⟩
  rw [if_pos e0]
  have le6 : h.le h6 := fun y O hy => by
    have h3y := l3 _ _ (le2 _ _ hy)
    refine x6 y O (l5 _ _ (l4 _ _ h3y)) fun hm => ?_
    simp at hm; subst hm; rw [m43] at h3y; cases h3y
  have gnone : ∀ b, (h5.cut [b43]) b = none → h b = none := fun b hb => none_of (PH.le_trans le2 (PH.le_trans l3 le3c)) hb
  cases hr : srch l l.length 0 s0 with
  | none =>
    rw [hr] at told
    have told : v = .tuple #[.slice none 0 0, .bool false] := told
    subst told
    simp only [oTup_mk, oIx_some, oS_some, oB_some, List.getElem?_toArray, List.getElem?_cons_zero, List.getElem?_cons_succ]
    exact ⟨rfl, le6, none, 0, 0, false, by rw [e0], rfl, rfl, rfl, rfl⟩
  | some ks =>
    rw [hr] at told
    obtain ⟨p, q, c', S, rfl, ints, nS⟩ := told
    simp only [oTup_mk, oIx_some, oS_some, oB_some, List.getElem?_toArray, List.getElem?_cons_zero, List.getElem?_cons_succ]
    exact ⟨rfl, le6, p, q, c', true, by rw [e0], rfl, S, ints, fun b hb => gnone b (nS b hb)⟩

/-- What is told of some calls: an order, if there is one. -/
def askO (t o m : Int) (l : List Cl) : Option (List Nat) := if askE t o m l = 0 then srch l l.length 0 (Ms.new t o m) else none
theorem meets_Can {h : PH} {a : Option Addr} {n c : Nat} {l : List Cl} (x : ClsAt h a l) (hl : l.length = n) (hn : n ≤ 1000000) (t o m : Int) :
    Meets Try.prog 25 #[.int .i64 t, .int .i64 o, .int .i64 m, .slice a n c] h fun v h' => v = .tuple #[.bool (askO t o m l).isSome, .int .i64 (askE t o m l)] ∧ h' = h := by
  apply Meets.same
  apply P_check_Can_of
  unfold P_check_Can
  refine (meets_ask x hl hn t o m).mono ?_
  rintro _ h1 ⟨le, p, k, c', ok, rfl, ho⟩
  have : ok = (askO t o m l).isSome := by
    unfold askO
    cases hh : (if askE t o m l = 0 then srch l l.length 0 (Ms.new t o m) else none) with
    | none => rw [hh] at ho; exact ho.2.2.2
    | some ks => rw [hh] at ho; exact ho.1
  subst this
  simp only [oTup_mk, oIx_some, oS_some, oB_some, oI_some, List.getElem?_toArray, List.getElem?_cons_zero, List.getElem?_cons_succ]
  exact ⟨rfl, by trivial, le⟩
theorem meets_Order {h : PH} {a : Option Addr} {n c : Nat} {l : List Cl} (x : ClsAt h a l) (hl : l.length = n) (hn : n ≤ 1000000) (t o m : Int) :
    Meets Try.prog 27 #[.int .i64 t, .int .i64 o, .int .i64 m, .slice a n c] h fun v h' => h.le h' ∧ ∃ p k c' S, v = .tuple #[.slice p k c', .int .i64 (askE t o m l)] ∧ IntsIn h' p k c' (((askO t o m l).getD []).map fun (k : Nat) => (k : Int)) S ∧ ∀ b ∈ S, h b = none := by
  apply P_check_Order_of
  unfold P_check_Order
  refine (meets_ask x hl hn t o m).mono ?_
  rintro _ h1 ⟨le, p, k, c', ok, rfl, ho⟩
  simp only [oTup_mk, oIx_some, oS_some, oB_some, oI_some, List.getElem?_toArray, List.getElem?_cons_zero, List.getElem?_cons_succ]
  refine ⟨rfl, le, p, k, c', ?_⟩
  unfold askO
  cases hh : (if askE t o m l = 0 then srch l l.length 0 (Ms.new t o m) else none) with
  | none =>
    rw [hh] at ho
    obtain ⟨rfl, rfl, rfl, _⟩ := ho
    exact ⟨[], rfl, IntsIn.nil _, by simp⟩
  | some ks =>
    rw [hh] at ho
    obtain ⟨_, S, i, nS⟩ := ho
    exact ⟨S, rfl, i, nS⟩

end Go.Ck
