/-
  The search, whole; what is asked of calls.
-/
import Derived.Test.YtnnedfhpicdacaaC7
set_option linter.unusedSimpArgs false
set_option linter.unusedVariables false
namespace Go.Ck
open Go Go.Sx Go.Md Go.Proofs Go.Proofs.Ytnnedfhpicdacaa

/-- What the search tells. -/
def Told (g h' : PH) (v : Value) : Option (List Nat) → Prop
  | none => v = .tuple #[.slice none 0 0, .bool false]
  | some ks => ∃ p m c S, v = .tuple #[.slice p m c, .bool true] ∧ IntsIn h' p m c (ks.map fun (k : Nat) => (k : Int)) S ∧ ∀ b ∈ S, g b = none
/-- One candidate. -/
def cand (l : List Cl) (f done : Nat) (s : Ms) (k : Nat) : Option (List Nat) := if (freeK l done k && s.code (cl l k).event == 0) = true then (srch l f (done ||| 2 ^ k) (s.next (cl l k).event)).map (k :: ·) else none
theorem srch_succ (l : List Cl) (f done : Nat) (s : Ms) : srch l (f + 1) done s = (List.range l.length).findSome? (cand l f done s) := rfl

theorem valid_len {l : List Cl} : ∀ (f d : Nat) (s : Ms) (ks : List Nat), srch l f d s = some ks → ks.length ≤ f := by
  intro f
  induction f with
  | zero => intro d s ks h; simp only [srch, Option.some.injEq] at h; subst h; simp
  | succ f ih =>
    intro d s ks h
    unfold srch at h
    obtain ⟨k, hk, hh⟩ := List.exists_of_findSome?_eq_some h
    split at hh
    · cases hr : srch l f (d ||| 2 ^ k) (s.next (cl l k).event) with
      | none => rw [hr] at hh; cases hh
      | some r =>
        rw [hr] at hh
        simp only [Option.map_some, Option.some.injEq] at hh
        subst hh
        have := ih _ _ _ hr
        simp; omega
    · cases hh

set_option maxHeartbeats 4000000 in
theorem meets_rest {l : List Cl} (n60 : l.length ≤ 60) (may : ∀ c ∈ l, c.may = true) {g : PH} {sp db : Nat} {ca oa : Option Addr} {cc oc : Nat} (gs : g sp = some (.cells #[.slice ca l.length cc, .slice oa l.length oc, .map (some db)] 165 (0, 0))) (xc : ClsAt g ca l) (xo : RecsAt uL 1 g oa ((List.range l.length).map (ovr l))) :
    ∀ (f : Nat) (h : PH) (T : List Nat) (M : Nat) (L : ML) (s : Ms) (done : Nat), g.le h → (∀ b ∈ T, g b = none) → DeadAt l h db T M → M + cost f ≤ 100000000000 → MRep h L s → s.Ok → s.Flat → (∀ y ∈ L.all, y ∉ T) → done < 2 ^ l.length → leftN l done = f →
      Meets Try.prog 89 #[.pointer (some ⟨sp, 0, none⟩), .int .u64 (done : Int), mp L] h fun v h' => Told g h' v (srch l f done s) ∧ ∃ T', DeadAt l h' db T' (M + cost f) ∧ Ext T h h' ∧ ∀ b ∈ T', b ∈ T ∨ h b = none := by
  have pow60 : 2 ^ l.length < 2 ^ 64 := Nat.pow_lt_pow_right (by decide) (by omega)
  intro f
  induction f with
  | zero =>
    intro h T M L s done gl gT dead hM r ks flat LT hd hf
    have hdone := full_of_left hd hf
    apply P_check_search_rest_of
    unfold P_check_search_rest
    have hs := gl _ _ gs
    simp only [xNn_some, add_mk, cell_mk, upd_at, del_at, if_true, if_false, Option.bind_some, List.getElem?_toArray, List.getElem?_cons_succ, List.getElem?_cons_zero, oI_some, oS_some, oM_some, oB_some, oP_some, oT_some, xIdx_some, Nat.zero_add, Nat.add_zero, Nat.mul_one, hs]
    refine ⟨by omega, ?_⟩
    have hsh := shl_one l.length (by omega)
    have hsub : (((2 ^ l.length : Nat) : Int) - 1) = ((2 ^ l.length - 1 : Nat) : Int) := by
      have : 1 ≤ 2 ^ l.length := Nat.one_le_two_pow
      omega
    have hwr := wrapU (2 ^ l.length - 1) (by omega)
    simp only [hsh, hsub, hwr]
    refine ⟨fun _ => ?_, fun hx => (by rw [← hdone] at hx; simp at hx)⟩
    refine ⟨⟨none, 0, 0, [], rfl, IntsIn.nil _, by simp⟩, T, dead.more (by omega), Ext.refl _ _, fun b hb => .inl hb⟩
  | succ f ih =>
    intro h T M L s done gl gT dead hM r ks flat LT hd hf
    have hne : done ≠ 2 ^ l.length - 1 := fun h => by subst h; rw [left_full] at hf; cases hf
    have hM1 : M + 1 + (f + 1) * cost f ≤ 100000000000 := by simp only [cost] at hM; omega
    have d64 : done < 2 ^ 64 := by omega
    apply P_check_search_rest_of
    unfold P_check_search_rest
    have hs := gl _ _ gs
    have sT : sp ∉ T := fun hm => by rw [gT sp hm] at gs; cases gs
    simp only [xNn_some, add_mk, cell_mk, upd_at, del_at, if_true, if_false, Option.bind_some, List.getElem?_toArray, List.getElem?_cons_succ, List.getElem?_cons_zero, oI_some, oS_some, oM_some, oB_some, oP_some, oT_some, xIdx_some, Nat.zero_add, Nat.add_zero, Nat.mul_one, hs]
    refine ⟨by omega, ?_⟩
    have hsh := shl_one l.length (by omega)
    have hsub : (((2 ^ l.length : Nat) : Int) - 1) = ((2 ^ l.length - 1 : Nat) : Int) := by
      have : 1 ≤ 2 ^ l.length := Nat.one_le_two_pow
      omega
    have hwr := wrapU (2 ^ l.length - 1) (by omega)
    simp only [hsh, hsub, hwr]
    refine ⟨fun hx => ?_, fun _ => ?_⟩
    · exfalso
      have : done = 2 ^ l.length - 1 := by
        have := beq_iff_eq.1 hx
        exact_mod_cast this
      exact hne this
    refine (meets_isDead hs dead (by omega) r flat done).mono ?_
    rintro _ _ ⟨⟨b, rfl, hb⟩, rfl⟩
    rename_i h
    simp only [oB_some]
    refine ⟨fun hx => ?_, fun _ => ?_⟩
    · have := hb hx
      rw [hf] at this
      rw [this]
      exact ⟨rfl, T, dead.more (by omega), Ext.refl _ _, fun b hb => .inl hb⟩
    clear hb
    simp only [xNn_some, add_mk, cell_mk, upd_at, del_at, if_true, if_false, Option.bind_some, List.getElem?_toArray, List.getElem?_cons_succ, List.getElem?_cons_zero, oI_some, oS_some, oM_some, oB_some, oP_some, oT_some, xIdx_some, Nat.zero_add, Nat.add_zero, Nat.mul_one, hs]
    -- what is known between rounds
    let I : Nat → PH → Prop := fun i h' => ∃ T' M', DeadAt l h' db T' M' ∧ M' ≤ M + cnt done i * cost f ∧ Ext T h h' ∧ (∀ b ∈ T', b ∈ T ∨ h b = none) ∧ ∀ k, k < i → cand l f done s k = none
    refine xBlk_split (I l.length) ?_ fun K hK => ?_
    · rintro h1 ⟨T1, M1, dead1, hM1', x1, n1, no⟩
      have hc : cnt done l.length = f + 1 := hf
      rw [hc] at hM1'
      have gl1 : g.le h1 := fun y O hy => x1 y O (gl y O hy) fun hm => by rw [gT y hm] at hy; cases hy
      have gT1 : ∀ b ∈ T1, g b = none := fun b hb => by rcases n1 b hb with h' | h'; exact gT b h'; exact none_of gl h'
      have sT1 : sp ∉ T1 := fun hm => by rw [gT1 sp hm] at gs; cases gs
      have LT1 : ∀ y ∈ L.all, y ∉ T1 := fun y hy hm => by
        rcases n1 y hm with h' | h'
        · exact LT y hy h'
        · obtain ⟨O, hO⟩ := r.known y hy; rw [h'] at hO; cases hO
      have none_ : srch l (f + 1) done s = none := by
        rw [srch_succ, List.findSome?_eq_none_iff]
        intro k hk
        exact no k (by simpa using hk)
      have dm : DeadM l h1 T1 done L := ⟨s, r.ext x1 LT, flat, by rw [hf]; exact none_, LT1⟩
      have hMM : M1 ≤ 1000000000000 := by omega
      have tail := fun (K : PH → Prop) k => dead_tail (K := K) (gl1 _ _ gs) dead1 hMM sT1 dm k
      simp only [xNn_some, add_mk, cell_mk, upd_at, del_at, if_true, if_false, Option.bind_some, List.getElem?_toArray, List.getElem?_cons_succ, List.getElem?_cons_zero, oI_some, oS_some, oM_some, oB_some, oP_some, oT_some, xIdx_some, Nat.zero_add, Nat.add_zero, Nat.mul_one] at tail
      refine tail _ ?_
      intro h2 T2 dead2 x2 n2
      rw [none_]
      refine ⟨rfl, T2, dead2.more (by simp only [cost]; omega), ?_, ?_⟩
      · intro y O hy hm
        refine x2 y O (x1 y O hy hm) fun hm1 => ?_
        rcases n1 y hm1 with h' | h'
        · exact hm h'
        · rw [hy] at h'; cases h'
      · intro b hb
        rcases n2 b hb with h' | h'
        · exact n1 b h'
        · by_cases hm : b ∈ T
          · exact .inl hm
          · right
            cases hh : h b with
            | none => rfl
            | some O => rw [x1 b O hh hm] at h'; cases h'
    refine xLoop1 (fun (i : Int) h' => 0 ≤ i ∧ i ≤ l.length ∧ I i.toNat h') (fun (i : Int) _ => ((l.length : Int) - i).toNat) ?_ ⟨by omega, by omega, T, M, dead, by omega, Ext.refl _ _, fun b hb => .inl hb, fun k hk => by simp at hk⟩
    rintro J i h1 ⟨i0, i1, hI⟩ hJ
    refine ⟨fun hx => ?_, fun hx => ?_⟩
    rotate_left
    · have hx := of_decide_eq_false hx
      have : i.toNat = l.length := by omega
      rw [this] at hI
      exact hK _ hI
    have hx := of_decide_eq_true hx
    have hw : IntKind.wrap .i64 (i + 1) = i + 1 := wrap64_id (by omega) (by omega)
    have hi : i.toNat < l.length := by omega
    have hic : i = ((i.toNat : Nat) : Int) := by omega
    have step : ∀ h', I (i.toNat + 1) h' → J (i + 1) h' := fun h' k' => hJ _ _ ⟨by omega, by omega, by rw [show (i + 1).toNat = i.toNat + 1 from by omega]; exact k'⟩ (by omega)
    clear hJ hK
    generalize hk : i.toNat = k at hi hic hI step
    clear hk
    subst hic
    refine xBlk_split (I (k + 1)) (fun h' k' => by rw [hw]; exact step h' k') fun K hK => ?_
    clear step
    obtain ⟨T1, M1, dead1, hM1', x1, n1, no⟩ := hI
    have gl1 : g.le h1 := fun y O hy => x1 y O (gl y O hy) fun hm => by rw [gT y hm] at hy; cases hy
    have gT1 : ∀ b ∈ T1, g b = none := fun b hb => by rcases n1 b hb with h' | h'; exact gT b h'; exact none_of gl h'
    have sT1 : sp ∉ T1 := fun hm => by rw [gT1 sp hm] at gs; cases gs
    have LT1 : ∀ y ∈ L.all, y ∉ T1 := fun y hy hm => by
      rcases n1 y hm with h' | h'
      · exact LT y hy h'
      · obtain ⟨O, hO⟩ := r.known y hy; rw [h'] at hO; cases hO
    have r1 := r.ext x1 LT
    obtain ⟨b, hb, c0, c1, c2, c3, c4, c5, c6⟩ := cls_at (xc.le gl1) (List.getElem?_eq_getElem hi)
    have hcl : cl l k = l[k] := by simp [cl, List.getD_eq_getElem?_getD, hi]
    rw [← hcl] at c0 c1 c2 c3 c4 c5 c6
    refine ⟨b, hb, i0, hx, ?_⟩
    simp only [Int.toNat_natCast, c0, c1, c2, c3, c4, c5, c6, oI_some]
    clear c0 c1 c2 c3 c4 c5 c6
    refine xBox rfl rfl rfl (by decide) (clL_one (cl l k)) fun b9 h2 l2 n9 e9 => ?_
    have e9' : h2 b9 = some (.cells (clL (cl l k)).toArray 61 (0, 0)) := e9
    clear e9
    have gl2 := PH.le_trans gl1 l2
    have r2 := r1.le l2
    have dead2 := dead1.le l2
    have k64 : k < 64 := by omega
    have k60 : k < 60 := by omega
    refine ⟨i0, ?_⟩
    simp only [shr_bit done k k64 d64]
    have hs2 := gl2 _ _ gs
    -- where the call is passed over
    have skip : cand l f done s k = none → ∀ h', (∃ T' M', DeadAt l h' db T' M' ∧ M' ≤ M + cnt done k * cost f ∧ Ext T h h' ∧ (∀ b ∈ T', b ∈ T ∨ h b = none)) → K h' := by
      rintro hc h' ⟨T', M', a1, a2, a3, a4⟩
      refine hK _ ⟨T', M', a1, Nat.le_trans a2 (Nat.add_le_add_left (Nat.mul_le_mul_right _ (cnt_mono done k)) _), a3, a4, fun k' hk' => ?_⟩
      by_cases e : k' = k
      · subst e; exact hc
      · exact no k' (by omega)
    have x2 : Ext T h h2 := x1.trans' (Ext.of_le l2)
    refine xSc_or (IntKind.wrap .u64 (BitVec.ofInt (IntKind.bits .u64) ((ovr l k : Nat) : Int) &&& ~~~(BitVec.ofInt (IntKind.bits .u64) (done : Int))).toNat != 0) (fun _ J hJ => ?_) ?_
    · simp only [xNn_some, add_mk, cell_mk, upd_at, del_at, if_true, if_false, Option.bind_some, List.getElem?_toArray, List.getElem?_cons_succ, List.getElem?_cons_zero, oI_some, oS_some, oM_some, oB_some, oP_some, oT_some, xIdx_some, Nat.zero_add, Nat.add_zero, Nat.mul_one, hs2]
      obtain ⟨b', hb', hcell⟩ := (xo.le gl2).at_ k (ovr l k) (by simp [hi])
      have c0 := hcell 0 _ rfl
      rw [add_zero'] at c0
      refine ⟨b', hb', i0, hx, ?_⟩
      simp only [Int.toNat_natCast, c0, oI_some]
      exact hJ
    rw [free_code l done k (by omega) d64 k64]
    refine ⟨fun hfr => ?_, fun hfr => ?_⟩
    · have hfr : freeK l done k = false := by simpa using hfr
      exact skip (by unfold cand; rw [hfr]; rfl) _ ⟨T1, M1, dead2, hM1', x2, n1⟩
    have hfr : freeK l done k = true := by simpa using hfr
    refine (meets_Clone r2).mono ?_
    rintro _ h3 ⟨C, rfl, r3, l3, n3⟩
    simp only [mp, oP_some]
    have e93 := l3 _ _ e9'
    simp only [xNn_some, add_mk, cell_mk, upd_at, del_at, if_true, if_false, Option.bind_some, List.getElem?_toArray, List.getElem?_cons_succ, List.getElem?_cons_zero, oI_some, oS_some, oM_some, oB_some, oP_some, oT_some, xIdx_some, Nat.zero_add, Nat.add_zero, Nat.mul_one, e93, clL]
    refine (meets_Apply r3 (cl l k).event ks.few).mono ?_
    rintro _ h4 ⟨rfl, r4, x4⟩
    simp only [oI_some]
    -- all but the clone is as it was
    have l24 : h2.le h4 := fun y O hy => x4 y O (l3 y O hy) fun hm => by rw [n3 y hm] at hy; cases hy
    have dead4 := dead2.le l24
    have gl4 := PH.le_trans gl2 l24
    have x14 : Ext T h h4 := x2.trans' (Ext.of_le l24)
    refine ⟨fun hc => ?_, fun hc => ?_⟩
    · have hc : s.code (cl l k).event ≠ 0 := by simpa using hc
      refine skip ?_ _ ⟨T1, M1, dead4, hM1', x14, n1⟩
      unfold cand
      rw [if_neg (by simp [hc])]
    have hc : s.code (cl l k).event = 0 := by simpa using hc
    refine ⟨i0, ?_⟩
    have e2 := shl_one k k64
    simp only [e2, or_bits _ _ d64 (Nat.pow_lt_pow_right (by decide) k64)]
    have lk := left_or hi (free_bit hfr)
    have CT : ∀ y ∈ C.all, y ∉ T1 := fun y hy hm => by
      obtain ⟨O, hO⟩ := dead2.known y hm
      rw [n3 y hy] at hO; cases hO
    have cb : done.testBit k = false := free_bit hfr
    have cs : cnt done (k + 1) = cnt done k + 1 := by rw [cnt_succ, cb]; rfl
    have cle : cnt done (k + 1) ≤ f + 1 := by
      have : ∀ q, k + 1 + q = l.length → cnt done (k + 1) ≤ cnt done l.length := by
        intro q
        have : ∀ q m, cnt done m ≤ cnt done (m + q) := by
          intro q
          induction q with
          | zero => intro m; exact Nat.le_refl _
          | succ q ihq => intro m; exact Nat.le_trans (ihq m) (cnt_mono _ _)
        intro hq
        rw [← hq]; exact this q (k + 1)
      have h2 := this (l.length - (k + 1)) (by omega)
      have h3 : cnt done l.length = f + 1 := hf
      omega
    have hb1 : M1 + cost f ≤ M + cnt done (k + 1) * cost f := by rw [cs, Nat.add_mul]; omega
    have hb2 : M + cnt done (k + 1) * cost f ≤ M + (f + 1) * cost f := Nat.add_le_add_left (Nat.mul_le_mul_right _ cle) _
    refine (ih h4 T1 M1 C (s.next (cl l k).event) (done ||| 2 ^ k) gl4 gT1 dead4 (by omega) r4 (next_ok ks _) (flat_next flat (may _ (by rw [hcl]; exact List.getElem_mem hi))) CT (or_lt hd hi) (by omega)).mono ?_
    rintro v h5 ⟨told, T5, dead5, x5, n5⟩
    have x15 : Ext T h h5 := fun y O hy hm => x5 y O (x14 y O hy hm) fun hm1 => by
      rcases n1 y hm1 with h' | h'
      · exact hm h'
      · rw [hy] at h'; cases h'
    have n15 : ∀ b ∈ T5, b ∈ T ∨ h b = none := fun b hb => by
      rcases n5 b hb with h' | h'
      · exact n1 b h'
      · by_cases hm : b ∈ T
        · exact .inl hm
        · right
          cases hh : h b with
          | none => rfl
          | some O => rw [x14 b O hh hm] at h'; cases h'
    cases hr : srch l f (done ||| 2 ^ k) (s.next (cl l k).event) with
    | none =>
      rw [hr] at told
      have told : v = .tuple #[.slice none 0 0, .bool false] := told
      subst told
      simp only [oTup_mk, oIx_some, oS_some, oB_some, List.getElem?_toArray, List.getElem?_cons_zero, List.getElem?_cons_succ]
      refine ⟨rfl, fun hx => (by cases hx), fun _ => ?_⟩
      refine hK _ ⟨T5, M1 + cost f, dead5, hb1, x15, n15, fun k' hk' => ?_⟩
      by_cases e : k' = k
      · subst e
        unfold cand
        rw [hr]; simp
      · exact no k' (by omega)
    | some ks' =>
      rw [hr] at told
      obtain ⟨p, m, c, S, rfl, ints, nS⟩ := told
      simp only [oTup_mk, oIx_some, oS_some, oB_some, List.getElem?_toArray, List.getElem?_cons_zero, List.getElem?_cons_succ]
      refine ⟨rfl, fun _ => ?_, fun hx => (by cases hx)⟩
      refine xNew_intro fun b72 h6 l6 n72 e72 => ?_
      have ints6 := ints.of (h' := h6) fun b hb => by
        have := ints.known b hb
        cases hh : h5 b with
        | none => exact absurd hh this
        | some O => exact l6 _ _ hh
      have hlen := valid_len f _ _ _ hr
      have hflen : f ≤ 60 := by
        have : leftN l done ≤ l.length := by
          unfold leftN
          exact Nat.le_trans (List.length_filter_le _ _) (by simp)
        omega
      refine app_ints ints6 e72 (by simp; omega) ?_
      intro p' m' c' h7 S' i7 x7 n7
      have found : srch l (f + 1) done s = some (k :: ks') := by
        rw [srch_succ]
        refine findSome_range _ _ k hi _ ?_ no
        unfold cand
        rw [if_pos (by simp [hfr, hc]), hr]; rfl
      rw [found]
      have h57 : h5.le h7 := fun y O hy => x7 y O (l6 y O hy) fun hm => by
        simp only [List.mem_singleton] at hm
        subst hm; rw [n72] at hy; cases hy
      have gl5 : g.le h5 := fun y O hy => x15 y O (gl y O hy) fun hm => by rw [gT y hm] at hy; cases hy
      refine ⟨⟨p', m', c', S', rfl, by simpa using i7, fun b hb => ?_⟩, T5, (dead5.le h57).more (by simp only [cost]; omega), x15.trans' (Ext.of_le h57), n15⟩
      rcases n7 b hb with h' | h'
      · subst h'; exact none_of gl5 n72
      · exact none_of gl5 (none_of l6 h')

end Go.Ck
