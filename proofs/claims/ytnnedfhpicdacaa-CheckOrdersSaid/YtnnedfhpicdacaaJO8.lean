/-
  Two models with nobody who waits, or left: if they are told the same, they are.
-/
import Derived.Test.YtnnedfhpicdacaaRows
import Derived.Test.YtnnedfhpicdacaaJO2
import Derived.Test.YtnnedfhpicdacaaJO3
import Derived.Test.YtnnedfhpicdacaaJO5
import Derived.Test.YtnnedfhpicdacaaJO6
import Derived.Test.YtnnedfhpicdacaaJO7

set_option linter.unusedSimpArgs false
set_option linter.unusedVariables false
namespace Go.Md
open Go Go.Sx Go.Proofs Go.Proofs.Ytnnedfhpicdacaa

def mo0 : Mo := ⟨-1, 0, 0⟩
theorem take_succ_getD {α : Type} {l : List α} {n : Nat} (d : α) (h : n < l.length) : l.take (n + 1) = l.take n ++ [l.getD n d] := by
  rw [List.take_succ_eq_append_getElem h, List.getD_eq_getElem?_getD, List.getElem?_eq_getElem h]; rfl
theorem meets_eq_mons {h : PH} {a b : Nat} {l l' : List Mo} {j j' : List Value} {c c' : Nat} (ha : h a = some (.cells (moArr l j) 117 (0, 0))) (hb : h b = some (.cells (moArr l' j') 117 (0, 0))) (h8 : l.length ≤ 8) :
    Meets Try.prog 53 #[.slice (some ⟨a, 0, none⟩) l.length c, .slice (some ⟨b, 0, none⟩) l'.length c'] h fun v h' => (∃ r, v = .bool r ∧ (r = true → l = l')) ∧ h' = h := by
  apply P_slices_Equal_model_monitor_model_monitor_of
  unfold P_slices_Equal_model_monitor_model_monitor
  refine ⟨fun hx => ⟨⟨false, rfl, fun h => (by cases h)⟩, rfl⟩, fun hx => ?_⟩
  have hlen : l.length = l'.length := by simp at hx; omega
  refine xLoop1 (fun (x : Int) h' => h' = h ∧ 0 ≤ x ∧ x ≤ l.length ∧ l.take x.toNat = l'.take x.toNat) (fun (x : Int) _ => ((l.length : Int) - x).toNat) ?_ ⟨rfl, by omega, by omega, rfl⟩
  rintro J x _ ⟨rfl, x0, x1, pre⟩ hJ
  refine ⟨fun hc => ?_, fun hc => ?_⟩
  · have hc := of_decide_eq_true hc
    have hn : x.toNat < l.length := by omega
    have hn' : x.toNat < l'.length := by omega
    have hc' : x < (l'.length : Int) := by omega
    have hw : IntKind.wrap .i64 (x + 1) = x + 1 := wrap64_id (by omega) (by omega)
    have hmu : ((l.length : Int) - (x + 1)).toNat < ((l.length : Int) - x).toNat := by omega
    have x0' : 0 ≤ x + 1 := by omega
    have x1' : x + 1 ≤ l.length := by omega
    have x2' : (x + 1).toNat = x.toNat + 1 := by omega
    refine xDraw_self ?_
    simp only [xNn_some, add_mk, cell_mk, upd_at, del_at, if_true, if_false, Option.bind_some, List.getElem?_toArray, List.getElem?_cons_succ, List.getElem?_cons_zero, oI_some, oS_some, oM_some, oB_some, oP_some, oT_some, xIdx_some, Nat.zero_add, Nat.add_zero, Nat.mul_one, ha, hb, moArr_0 hn, moArr_1 hn, moArr_2 hn, moArr_0 hn', moArr_1 hn', moArr_2 hn']
    have t1 := take_succ_getD mo0 hn
    have t2 := take_succ_getD mo0 hn'
    have e1 : l.getD x.toNat ⟨-1, 0, 0⟩ = l.getD x.toNat mo0 := rfl
    have e2 : l'.getD x.toNat ⟨-1, 0, 0⟩ = l'.getD x.toNat mo0 := rfl
    rw [e1, e2]
    generalize l.getD x.toNat mo0 = m at t1 ⊢
    generalize l'.getD x.toNat mo0 = m' at t2 ⊢
    refine ⟨x0, hc, x0, hc', ([m.owner, m.count, m.hash] == [m'.owner, m'.count, m'.hash]), ?_, fun hx => ?_, fun hx => ?_⟩
    · exact eqLaw_ints (P := Try.prog) (t := 117) [.i64, .i64, .i64] [m.owner, m.count, m.hash] [m'.owner, m'.count, m'.hash] (by kernel_rfl) rfl rfl
    · exact ⟨⟨false, rfl, fun h => (by cases h)⟩, by trivial⟩
    · rw [hw]
      have hm : m = m' := by
        have : ([m.owner, m.count, m.hash] == [m'.owner, m'.count, m'.hash]) = true := by simpa using hx
        have := eq_of_beq this
        simp only [List.cons.injEq, and_true] at this
        cases m; cases m'; simp_all
      refine hJ _ _ ⟨rfl, x0', x1', ?_⟩ hmu
      rw [x2', t1, t2, pre, hm]
  · have hc := of_decide_eq_false hc
    refine ⟨⟨true, rfl, fun _ => ?_⟩, rfl⟩
    have e1 : l.take x.toNat = l := List.take_of_length_le (by omega)
    have e2 : l'.take x.toNat = l' := List.take_of_length_le (by omega)
    rw [e1, e2] at pre; exact pre
theorem meets_eq_flags {h : PH} {a b : Nat} {l l' : List Bool} {j j' : List Value} {c c' : Nat} (ha : h a = some (.cells (flArr l j) 4 (0, 0))) (hb : h b = some (.cells (flArr l' j') 4 (0, 0))) (h8 : l.length ≤ 8) :
    Meets Try.prog 54 #[.slice (some ⟨a, 0, none⟩) l.length c, .slice (some ⟨b, 0, none⟩) l'.length c'] h fun v h' => (∃ r, v = .bool r ∧ (r = true → l = l')) ∧ h' = h := by
  apply P_slices_Equal_bool_bool_of
  unfold P_slices_Equal_bool_bool
  refine ⟨fun hx => ⟨⟨false, rfl, fun h => (by cases h)⟩, rfl⟩, fun hx => ?_⟩
  have hlen : l.length = l'.length := by simp at hx; omega
  refine xLoop1 (fun (x : Int) h' => h' = h ∧ 0 ≤ x ∧ x ≤ l.length ∧ l.take x.toNat = l'.take x.toNat) (fun (x : Int) _ => ((l.length : Int) - x).toNat) ?_ ⟨rfl, by omega, by omega, rfl⟩
  rintro J x _ ⟨rfl, x0, x1, pre⟩ hJ
  refine ⟨fun hc => ?_, fun hc => ?_⟩
  · have hc := of_decide_eq_true hc
    have hn : x.toNat < l.length := by omega
    have hn' : x.toNat < l'.length := by omega
    have hc' : x < (l'.length : Int) := by omega
    have hw : IntKind.wrap .i64 (x + 1) = x + 1 := wrap64_id (by omega) (by omega)
    have hmu : ((l.length : Int) - (x + 1)).toNat < ((l.length : Int) - x).toNat := by omega
    have x0' : 0 ≤ x + 1 := by omega
    have x1' : x + 1 ≤ l.length := by omega
    have x2' : (x + 1).toNat = x.toNat + 1 := by omega
    refine xDraw_self ?_
    simp only [xNn_some, add_mk, cell_mk, upd_at, del_at, if_true, if_false, Option.bind_some, List.getElem?_toArray, List.getElem?_cons_succ, List.getElem?_cons_zero, oI_some, oS_some, oM_some, oB_some, oP_some, oT_some, xIdx_some, Nat.zero_add, Nat.add_zero, Nat.mul_one, ha, hb, flArr_get hn, flArr_get hn']
    have t1 := take_succ_getD false hn
    have t2 := take_succ_getD false hn'
    generalize l.getD x.toNat false = m at t1 ⊢
    generalize l'.getD x.toNat false = m' at t2 ⊢
    refine ⟨x0, hc, x0, hc', fun hx => ?_, fun hx => ?_⟩
    · exact ⟨⟨false, rfl, fun h => (by cases h)⟩, by trivial⟩
    · rw [hw]
      have hm : m = m' := by revert hx; cases m <;> cases m' <;> simp
      refine hJ _ _ ⟨rfl, x0', x1', ?_⟩ hmu
      rw [x2', t1, t2, pre, hm]
  · have hc := of_decide_eq_false hc
    refine ⟨⟨true, rfl, fun _ => ?_⟩, rfl⟩
    have e1 : l.take x.toNat = l := List.take_of_length_le (by omega)
    have e2 : l'.take x.toNat = l' := List.take_of_length_le (by omega)
    rw [e1, e2] at pre; exact pre

/-- Nobody waits, or left. -/
structure Ms.Flat (s : Ms) : Prop where
  w : s.waits = []
  l : s.left = []
theorem meets_Same_flat {h : PH} {L L' : ML} {s s' : Ms} (r : MRep h L s) (r' : MRep h L' s') (k : s.Flat) (k' : s'.Flat) : Meets Try.prog 16 #[mp L, mp L'] h fun v h' => (∃ b, v = .bool b ∧ (b = true → s = s')) ∧ h' = h := by
  have cw := r.cw
  have cw' := r'.cw
  have cl := r.cl
  have cl' := r'.cl
  rw [k.w] at cw
  rw [k'.w] at cw'
  rw [k.l] at cl
  rw [k'.l] at cl'
  have o1 : Pl.Once ([] : Pl Int) := by simp [Pl.Once]
  have o2 : Pl.Once ([] : Pl (Int × Int)) := by simp [Pl.Once]
  obtain ⟨c1, c2, cm⟩ := r.cm
  obtain ⟨c3, c4, cm'⟩ := r'.cm
  obtain ⟨j1, co⟩ := r.co
  obtain ⟨j2, co'⟩ := r'.co
  obtain ⟨j3, cf⟩ := r.cf
  obtain ⟨j4, cf'⟩ := r'.cf
  apply P_model_Model_Same_of
  unfold P_model_Model_Same
  refine (meets_ok r).look ?_
  simp only [oB_some]
  refine xSc_or false (fun _ J hJ => ?_) ⟨fun hx => (by cases hx), fun _ => ?_⟩
  · refine (meets_ok r').look ?_
    simp only [oB_some]
    exact hJ
  refine xDraw_self ?_
  simp only [xNn_some, add_mk, cell_mk, upd_at, del_at, if_true, if_false, Option.bind_some, List.getElem?_toArray, List.getElem?_cons_succ, List.getElem?_cons_zero, oI_some, oS_some, oM_some, oB_some, oP_some, oT_some, xIdx_some, Nat.zero_add, Nat.add_zero, Nat.mul_one, cm, cm']
  refine ⟨fun hm => ?_, fun hm => ?_⟩
  · have hm := beq_iff_eq.1 hm
    refine (meets_eq_mons co co' r.nm).mono ?_
    rintro _ _ ⟨⟨x, rfl, hx⟩, rfl⟩
    simp only [oB_some]
    refine ⟨PH.le_refl _, fun hb => ?_, fun hb => ?_⟩
    · refine (meets_eq_flags cf cf' r.nf).mono ?_
      rintro _ _ ⟨⟨y, rfl, hy⟩, rfl⟩
      simp only [oB_some]
      refine ⟨PH.le_refl _, fun hb2 => ?_, fun hb2 => ?_⟩
      · refine (meets_equal_waits cw cw' o1).look ?_
        simp only [oB_some]
        refine ⟨PH.le_refl _, ?_⟩
        refine ⟨fun _ => ?_, fun hb3 => (by cases hb3)⟩
        refine (meets_equal_left cl cl' o2).look ?_
        simp only [oB_some]
        refine ⟨PH.le_refl _, ⟨true, rfl, fun _ => ?_⟩, by trivial⟩
        obtain ⟨m1, m2, m3, m4, m5⟩ := s
        obtain ⟨n1, n2, n3, n4, n5⟩ := s'
        have a1 := hx hb
        have a2 := hy hb2
        have a3 := k.w; have a4 := k'.w; have a5 := k.l; have a6 := k'.l
        dsimp only at hm a1 a2 a3 a4 a5 a6
        subst hm a1 a2 a3 a4 a5 a6
        rfl
      · subst hb2
        exact xSc_and false (fun h => (by cases h)) ⟨⟨false, rfl, fun h => (by cases h)⟩, rfl⟩
    · subst hb
      refine xSc_and false (fun h => (by cases h)) ?_
      exact xSc_and false (fun h => (by cases h)) ⟨⟨false, rfl, fun h => (by cases h)⟩, rfl⟩
  · rw [hm]
    refine xSc_and false (fun h => (by cases h)) ?_
    refine xSc_and false (fun h => (by cases h)) ?_
    exact xSc_and false (fun h => (by cases h)) ⟨⟨false, rfl, fun h => (by cases h)⟩, rfl⟩

end Go.Md

/-
  What is known to lead nowhere, in memory.
-/
set_option linter.unusedSimpArgs false
set_option linter.unusedVariables false
namespace Go.Ck
open Go Go.Sx Go.Md Go.Proofs Go.Proofs.Ytnnedfhpicdacaa

def ptL (X : ML) : List Value := [mp X]
theorem ptL_len (X : ML) : (ptL X).length = 1 := rfl
/-- A model that leads nowhere behind some calls. -/
def DeadM (l : List Cl) (h : PH) (T : List Nat) (d : Nat) (X : ML) : Prop := ∃ s, MRep h X s ∧ s.Flat ∧ srch l (leftN l d) d s = none ∧ ∀ y ∈ X.all, y ∉ T
def DeadE (l : List Cl) (h : PH) (T : List Nat) (M : Nat) (e : MapEntry) (b : Nat) : Prop :=
  ∃ (d : Nat) (xs : List ML) (p : Option Addr) (n c : Nat), e.key = .int .u64 (d : Int) ∧ e.val = .slice p n c ∧ RowIn ptL 1 23 h p n c xs [b] ∧ xs.length ≤ M ∧ ∀ X ∈ xs, DeadM l h T d X
structure DeadAt (l : List Cl) (h : PH) (db : Nat) (T : List Nat) (M : Nat) : Prop where
  ex : ∃ (es : Array MapEntry) (cl : Nat) (bs : List Nat), h db = some (.map es cl) ∧ T = db :: bs ∧ T.Nodup ∧ bs.length = es.size ∧ ∀ (i : Nat) e b, es.toList[i]? = some e → bs[i]? = some b → DeadE l h T M e b

theorem DeadM.le {l : List Cl} {h h' : PH} {T : List Nat} {d : Nat} {X : ML} (x : DeadM l h T d X) (le : h.le h') : DeadM l h' T d X := by
  obtain ⟨s, r, k, n, t⟩ := x; exact ⟨s, r.le le, k, n, t⟩
theorem DeadE.le {l : List Cl} {h h' : PH} {T : List Nat} {M : Nat} {e : MapEntry} {b : Nat} (x : DeadE l h T M e b) (le : h.le h') : DeadE l h' T M e b := by
  obtain ⟨d, xs, p, n, c, k, v, r, m, t⟩ := x
  exact ⟨d, xs, p, n, c, k, v, r.le le, m, fun X hX => (t X hX).le le⟩
theorem DeadAt.le {l : List Cl} {h h' : PH} {db : Nat} {T : List Nat} {M : Nat} (x : DeadAt l h db T M) (le : h.le h') : DeadAt l h' db T M := by
  obtain ⟨es, cl, bs, e, ht, nd, hl, ha⟩ := x.ex
  exact ⟨es, cl, bs, le _ _ e, ht, nd, hl, fun i a b h1 h2 => (ha i a b h1 h2).le le⟩
theorem DeadAt.more {l : List Cl} {h : PH} {db : Nat} {T : List Nat} {M M' : Nat} (x : DeadAt l h db T M) (le : M ≤ M') : DeadAt l h db T M' := by
  obtain ⟨es, cl, bs, e, ht, nd, hl, ha⟩ := x.ex
  refine ⟨es, cl, bs, e, ht, nd, hl, fun i a b h1 h2 => ?_⟩
  obtain ⟨d, xs, p, n, c, k, v, r, m, t⟩ := ha i a b h1 h2
  exact ⟨d, xs, p, n, c, k, v, r, by omega, t⟩
theorem DeadAt.known {l : List Cl} {h : PH} {db : Nat} {T : List Nat} {M : Nat} (x : DeadAt l h db T M) : ∀ b ∈ T, ∃ O, h b = some O := by
  obtain ⟨es, cl, bs, e, rfl, nd, hl, ha⟩ := x.ex
  intro b hb
  rcases List.mem_cons.1 hb with rfl | hb
  · exact ⟨_, e⟩
  · obtain ⟨i, hi, rfl⟩ := List.getElem_of_mem hb
    have hi2 : i < es.toList.length := by simpa [hl] using hi
    obtain ⟨d, xs, p, n, c, k, v, r, m, t⟩ := ha i es.toList[i] bs[i] (List.getElem?_eq_getElem hi2) (List.getElem?_eq_getElem hi)
    exact r.known _ (by simp)

theorem findE_spec {k : Int} {kd : IntKind} : ∀ {es : List MapEntry} {i j : Nat} {v : Value}, (∀ e ∈ es, isKeyI kd e.key) → findE es (.int kd k) i = some (j, v) → i ≤ j ∧ ∃ e, es[j - i]? = some e ∧ e.key = .int kd k ∧ e.val = v := by
  intro es
  induction es with
  | nil => intro i j v _ h; cases h
  | cons e es ih =>
    intro i j v hk h
    unfold findE at h
    obtain ⟨a, ha⟩ := hk e (List.mem_cons_self ..)
    rw [ha, sameBits_int] at h
    split at h
    · rename_i hs
      simp only [Option.some.injEq, Prod.mk.injEq] at h
      obtain ⟨rfl, rfl⟩ := h
      have : k = a := by simpa using hs
      exact ⟨Nat.le_refl _, e, by simp, by rw [ha, this], rfl⟩
    · obtain ⟨h1, e', h2, h3⟩ := ih (fun e he => hk e (List.mem_cons_of_mem _ he)) h
      refine ⟨by omega, e', ?_, h3⟩
      rw [show j - i = (j - (i + 1)) + 1 from by omega]; simpa using h2

theorem DeadAt.keys {l : List Cl} {h : PH} {T : List Nat} {M : Nat} {es : Array MapEntry} {bs : List Nat} (hl : bs.length = es.size) (ha : ∀ (i : Nat) e b, es.toList[i]? = some e → bs[i]? = some b → DeadE l h T M e b) : ∀ e ∈ es.toList, isKeyI .u64 (MapEntry.key e) := by
  intro e he
  obtain ⟨i, hi, rfl⟩ := List.getElem_of_mem he
  have hi2 : i < bs.length := by simpa [hl] using hi
  obtain ⟨d, xs, p, n, c, k, v, r, m, t⟩ := ha i _ bs[i] (List.getElem?_eq_getElem hi) (List.getElem?_eq_getElem hi2)
  exact ⟨_, k⟩
theorem law_uint : KeyLaw Try.prog 167 (isKeyI .u64) := keyLawInt Try.underlying167

/-- What is found of some calls. -/
theorem DeadAt.look {l : List Cl} {h : PH} {db : Nat} {T : List Nat} {M : Nat} (x : DeadAt l h db T M) (d : Nat) {K : Option Value → Prop}
    (k0 : K none) (k1 : ∀ (xs : List ML) p n c b, RowIn ptL 1 23 h p n c xs [b] → xs.length ≤ M → (∀ X ∈ xs, DeadM l h T d X) → K (some (.slice p n c))) : xLook Try.prog 167 h (some db) (.int .u64 (d : Int)) K := by
  obtain ⟨es, cl, bs, e, rfl, nd, hl, ha⟩ := x.ex
  have hk := DeadAt.keys hl ha
  refine .inl ⟨db, es, cl, _, rfl, e, law_uint, ⟨_, rfl⟩, hk, ?_⟩
  unfold mapGet
  cases hf : findE es.toList (.int .u64 (d : Int)) 0 with
  | none => exact k0
  | some r =>
    obtain ⟨j, v⟩ := r
    obtain ⟨_, en, h1, h2, h3⟩ := findE_spec hk hf
    simp only [Nat.sub_zero] at h1
    have hj : j < bs.length := by
      have := (List.getElem?_eq_some_iff.1 h1).1
      simpa [hl] using this
    obtain ⟨d', xs, p, n, c, hkk, hv, r, m, t⟩ := ha j en bs[j] h1 (List.getElem?_eq_getElem hj)
    rw [hkk] at h2
    have : d' = d := by
      simp only [Value.int.injEq, true_and] at h2
      exact_mod_cast h2
    subst this
    simp only [Option.map_some]
    rw [← h3, hv]
    exact k1 xs p n c _ r m t

theorem meets_isDead {l : List Cl} {h : PH} {sp db : Nat} {T : List Nat} {M : Nat} {v0 v1 : Value} (es : h sp = some (.cells #[v0, v1, .map (some db)] 165 (0, 0))) (x : DeadAt l h db T M) (hM : M ≤ 1000000000000) {L : ML} {s : Ms} (r : MRep h L s) (k : s.Flat) (d : Nat) :
    Meets Try.prog 109 #[.pointer (some ⟨sp, 0, none⟩), .int .u64 (d : Int), mp L] h fun v h' => (∃ b, v = .bool b ∧ (b = true → srch l (leftN l d) d s = none)) ∧ h' = h := by
  apply P_check_search_isDead_of
  unfold P_check_search_isDead
  simp only [xNn_some, add_mk, cell_mk, upd_at, del_at, if_true, if_false, Option.bind_some, List.getElem?_toArray, List.getElem?_cons_succ, List.getElem?_cons_zero, oI_some, oS_some, oM_some, oB_some, oP_some, oT_some, xIdx_some, Nat.zero_add, Nat.add_zero, Nat.mul_one, es]
  refine x.look d ?_ ?_
  · simp only [Option.getD_none, oS_some]
    refine xLoop1 (fun (i : Int) h' => h' = h ∧ i = 0) (fun _ _ => 0) ?_ ⟨rfl, rfl⟩
    rintro J i _ ⟨rfl, rfl⟩ hJ
    exact ⟨fun hx => (by simp at hx), fun _ => ⟨⟨false, rfl, fun h => (by cases h)⟩, rfl⟩⟩
  · intro xs p n c b ri hm hd
    have hn := ri.1
    have rcs := ri.recs ptL_len
    simp only [Option.getD_some, oS_some]
    refine xLoop1 (fun (i : Int) h' => h' = h ∧ 0 ≤ i ∧ i ≤ n) (fun (i : Int) _ => ((n : Int) - i).toNat) ?_ ⟨rfl, by omega, by omega⟩
    rintro J i _ ⟨rfl, i0, i1⟩ hJ
    refine ⟨fun hx => ?_, fun _ => ⟨⟨false, rfl, fun h => (by cases h)⟩, rfl⟩⟩
    have hx := of_decide_eq_true hx
    have hw : IntKind.wrap .i64 (i + 1) = i + 1 := wrap64_id (by omega) (by omega)
    have hi : i.toNat < xs.length := by omega
    obtain ⟨b', hb, hc⟩ := rcs.at_ i.toNat xs[i.toNat] (List.getElem?_eq_getElem hi)
    have c0 := hc 0 _ rfl
    rw [add_zero'] at c0
    obtain ⟨s', r', k', dead, _⟩ := hd _ (List.getElem_mem hi)
    generalize xs[i.toNat] = X at c0 r'
    subst hb
    refine ⟨b', rfl, i0, hx, ?_⟩
    simp only [c0, mp, oP_some]
    refine (meets_Same_flat r' r k' k).mono ?_
    rintro _ _ ⟨⟨y, rfl, hy⟩, rfl⟩
    simp only [oB_some]
    refine ⟨fun h => ?_, fun h => ?_⟩
    · have := hy h
      subst this
      exact ⟨⟨true, rfl, fun _ => dead⟩, by trivial⟩
    · rw [hw]
      exact hJ _ _ ⟨rfl, by omega, by omega⟩ (by omega)

end Go.Ck

/-
  The search for an order.
-/
set_option linter.unusedSimpArgs false
set_option linter.unusedVariables false
namespace Go.Ck
open Go Go.Sx Go.Md Go.Proofs Go.Proofs.Ytnnedfhpicdacaa

def cost : Nat → Nat
  | 0 => 1
  | f + 1 => 1 + (f + 1) * cost f

theorem flat_next {s : Ms} (k : s.Flat) {c : Cl} (hm : c.may = true) : (s.next c.event).Flat := by
  have hk : c.event.kind = 1 ∨ c.event.kind = 2 ∨ c.event.kind = 3 ∨ c.event.kind = 9 ∨ c.event.kind = 11 ∨ c.event.kind = 12 ∨ c.event.kind = 8 ∨ c.event.kind = 10 := by
    unfold Cl.may at hm
    split at hm
    · cases hm
    split at hm
    · omega
    split at hm
    · omega
    split at hm
    · omega
    · cases hm
  generalize c.event = e at hk
  have key : ∀ s', s.apply e = some s' → s'.Flat := by
    intro s' h
    have up : ∀ {m : List Mo} {f : List Bool}, s' = { s with mons := m, flags := f } → s'.Flat := by
      intro m f e; subst e; exact ⟨k.w, k.l⟩
    have same : ∀ {x : Ms}, some x = some s' → x = s → s'.Flat := by
      intro x h1 h2; simp only [Option.some.injEq] at h1; subst h1; subst h2; exact k
    unfold Ms.apply at h
    split at h
    · split at h
      · unfold Ms.enter at h
        split at h
        · split at h
          · cases h
          · simp only [Option.some.injEq] at h; exact up (f := s.flags) h.symm
        split at h
        · split at h
          · exact same h rfl
          · cases h
        split at h
        · split at h
          · exact same h rfl
          · cases h
        split at h
        · split at h
          · exact same h rfl
          · cases h
        · cases h
      · cases h
    split at h
    · split at h
      · unfold Ms.exit at h
        split at h
        · split at h
          · cases h
          · exact same h rfl
        · split at h
          · cases h
          · simp only [Option.some.injEq] at h; exact up (f := s.flags) h.symm
      · cases h
    split at h
    · omega
    split at h
    · omega
    split at h
    · omega
    split at h
    · unfold Ms.tell at h
      split at h
      · omega
      split at h
      · split at h
        · exact same h rfl
        · cases h
      split at h
      · cases h
      split at h
      · split at h
        · exact same h rfl
        · cases h
      · split at h
        · exact same h rfl
        · cases h
    split at h
    · unfold Ms.hash at h
      split at h
      · split at h
        · exact same h rfl
        · cases h
      · split at h
        · cases h
        · simp only [Option.some.injEq] at h; exact up (f := s.flags) h.symm
    split at h
    · unfold Ms.holds at h
      split at h
      · exact same h rfl
      · cases h
    split at h
    · split at h
      · cases h
      · simp only [Option.some.injEq] at h; exact up (m := s.mons) h.symm
    · cases h
  unfold Ms.next Ms.step
  split
  · cases h : s.apply e with
    | none => exact k
    | some s' => exact key s' h
  · exact k

theorem app_ints {h : PH} {p : Option Addr} {m c : Nat} {l : List Int} {S : List Nat} {sb : Nat} {x : Int} {K : Option Addr → Nat → Nat → PH → Prop} (i : IntsIn h p m c l S) (hs : h sb = some (.cells #[.int .i64 x] 3 (0, 0))) (hl : l.length ≤ 1000000)
    (k : ∀ p' n' c' h' S', IntsIn h' p' n' c' (x :: l) S' → Ext [sb] h h' → (∀ b ∈ S', b = sb ∨ h b = none) → K p' n' c' h') : xApp h 3 1 8 (some ⟨sb, 0, none⟩) 1 1 (.slice p m c) K := by
  have src : srcCells h 1 (.slice p m c) (l.map (Value.int .i64)) m := by
    obtain ⟨rfl, ⟨rfl, rfl, rfl, rfl⟩ | ⟨b, junk, rfl, hb, hc, hj, rfl⟩⟩ := i
    · exact ⟨rfl, rfl, rfl⟩
    · refine ⟨rfl, by simp, fun j hj => ?_⟩
      have hj : j < l.length := by omega
      rw [add_mk, cellAt hb, Nat.zero_add, intArr_get hj]
      simp [hj]
  have hm : m = l.length := i.1
  refine ⟨_, m, src, by simp [oneCell], by omega, [.int .i64 x], [], rfl, hs, rfl, rfl, by decide, fun b cap' junk nb hc hj => ?_⟩
  refine k _ _ _ _ [b] ⟨by simp; omega, .inr ⟨b, junk, rfl, ?_, by simp; omega, by simp at hj ⊢; omega, rfl⟩⟩ ?_ ?_
  · rw [PH.upd_same]
    simp [intArr]
  · intro y O hy hm'
    have h1 : y ≠ sb := fun e => hm' (by simp [e])
    by_cases e : y = b
    · subst e
      rw [del_at, if_neg h1] at nb
      rw [nb] at hy; cases hy
    · rw [PH.upd_ne _ _ e, del_at, if_neg h1]; exact hy
  · intro y hy
    simp only [List.mem_singleton] at hy
    subst hy
    rw [del_at] at nb
    split at nb
    · rename_i e; exact .inl e
    · exact .inr nb

theorem findSome_range {β : Type} (f : Nat → Option β) (n i : Nat) (hi : i < n) (r : β) (h : f i = some r) (pre : ∀ k, k < i → f k = none) : (List.range n).findSome? f = some r := by
  obtain ⟨m, rfl⟩ : ∃ m, n = i + (m + 1) := ⟨n - i - 1, by omega⟩
  rw [List.range_add, List.findSome?_append]
  have : (List.range i).findSome? f = none := by
    rw [List.findSome?_eq_none_iff]
    intro k hk
    exact pre k (by simpa using hk)
  rw [this, Option.none_or, List.range_succ_eq_map, List.map_cons, List.findSome?_cons, Nat.add_zero, h]

/-- How many of the first calls are not done. -/
def cnt (done i : Nat) : Nat := ((List.range i).filter fun k => !done.testBit k).length
theorem cnt_succ (done i : Nat) : cnt done (i + 1) = cnt done i + (if done.testBit i = true then 0 else 1) := by
  unfold cnt
  rw [List.range_succ, List.filter_append, List.length_append]
  cases h : done.testBit i <;> simp [h]
theorem cnt_mono (done i : Nat) : cnt done i ≤ cnt done (i + 1) := by rw [cnt_succ]; omega

theorem dead_le {l : List Cl} {h h' : PH} {T T' : List Nat} {d : Nat} {X : ML} (x : DeadM l h T d X) (e : Ext T h h') (n : ∀ b ∈ T', b ∈ T ∨ h b = none) : DeadM l h' T' d X := by
  obtain ⟨s, r, k, hn, t⟩ := x
  refine ⟨s, r.ext e t, k, hn, fun y hy hm => ?_⟩
  rcases n y hm with h1 | h1
  · exact t y hy h1
  · obtain ⟨O, hO⟩ := r.known y hy
    rw [h1] at hO; cases hO
theorem deadE_le {l : List Cl} {h h' : PH} {T T' : List Nat} {M M' : Nat} {en : MapEntry} {b : Nat} (x : DeadE l h T M en b) (hM : M ≤ M') (e : Ext T h h') (n : ∀ b ∈ T', b ∈ T ∨ h b = none) (same : h' b = h b) : DeadE l h' T' M' en b := by
  obtain ⟨d, xs, p, m, c, k, v, r, hm, t⟩ := x
  exact ⟨d, xs, p, m, c, k, v, r.of (by simpa using same), by omega, fun X hX => dead_le (t X hX) e n⟩

theorem nodup_inj {α : Type} {l : List α} (h : l.Nodup) {i j : Nat} (hi : i < l.length) (hj : j < l.length) (e : l[i] = l[j]) : i = j := by
  have := List.pairwise_iff_getElem.1 h
  rcases Nat.lt_trichotomy i j with h1 | h1 | h1
  · exact absurd e (this i j hi hj h1)
  · exact h1
  · exact absurd e.symm (this j i hj hi h1)
theorem nodup_set {α : Type} {l : List α} (h : l.Nodup) (j : Nat) (b : α) (hb : ∀ i (hi : i < l.length), i ≠ j → b ≠ l[i]) : (l.set j b).Nodup := by
  refine List.pairwise_iff_getElem.2 fun a c ha hc hac => ?_
  simp only [List.length_set] at ha hc
  have base := List.pairwise_iff_getElem.1 h a c ha hc hac
  rw [List.getElem_set, List.getElem_set]
  split
  · rename_i e
    split
    · omega
    · exact hb c hc (by omega)
  · split
    · exact (hb a ha (by omega)).symm
    · exact base

/-- One more that leads nowhere. -/
theorem dead_tail {l : List Cl} {h : PH} {sp db : Nat} {T : List Nat} {M : Nat} {v0 v1 : Value} (es : h sp = some (.cells #[v0, v1, .map (some db)] 165 (0, 0))) (x : DeadAt l h db T M) (hM : M ≤ 1000000000000) (sT : sp ∉ T) {X : ML} {d : Nat} (dm : DeadM l h T d X) {K : PH → Prop}
    (k : ∀ h' T', DeadAt l h' db T' (M + 1) → Ext T h h' → (∀ b ∈ T', b ∈ T ∨ h b = none) → K h') :
    xDraw h fun hs => xNn (some ⟨sp, 0, none⟩) fun x77 => oM (hs.cell (x77.add 2)) fun x79 => xNn (some ⟨sp, 0, none⟩) fun x82 => oM (hs.cell (x82.add 2)) fun x84 => xLook Try.prog 167 hs x84 (.int .u64 (d : Int)) fun o => oS (some (Option.getD o (.slice none 0 0))) fun pa pl pc =>
      xNew h (.cells #[.pointer (some ⟨X.m, 0, none⟩)] 23 (0, 0)) fun b88 h19 => PH.le hs h19 ∧ xApp h19 23 1 8 pa pl pc (.slice (some ⟨b88, 0, none⟩) 1 1) fun qa ql qc h20 => PH.le hs h20 ∧ xPut Try.prog 167 h20 x79 (.int .u64 (d : Int)) (.slice qa ql qc) fun h21 => K h21 := by
  obtain ⟨es', cl, bs, e, rfl, nd, hl, ha⟩ := x.ex
  have hk := DeadAt.keys hl ha
  have sdb : sp ≠ db := fun h => sT (by simp [h])
  have sbs : sp ∉ bs := fun h => sT (List.mem_cons_of_mem _ h)
  have ndb : db ∉ bs := (List.nodup_cons.1 nd).1
  have ndbs := (List.nodup_cons.1 nd).2
  refine xDraw_cut bs ?_
  have c1 : (h.cut bs) sp = h sp := PH.cut_at sbs
  have c2 : (h.cut bs) db = h db := PH.cut_at ndb
  simp only [xNn_some, add_mk, cell_mk, upd_at, del_at, if_true, if_false, Option.bind_some, List.getElem?_toArray, List.getElem?_cons_succ, List.getElem?_cons_zero, oI_some, oS_some, oM_some, oB_some, oP_some, oT_some, xIdx_some, Nat.zero_add, Nat.add_zero, Nat.mul_one, c1, es]
  refine .inl ⟨db, es', cl, _, rfl, c2.trans e, law_uint, ⟨_, rfl⟩, hk, ?_⟩
  -- the end, whichever the entry
  have fin : ∀ (xs : List ML) (p : Option Addr) (n c : Nat) (S : List Nat), RowIn ptL 1 23 h p n c xs S → xs.length ≤ M → (∀ b ∈ S, b ∈ bs) → (∀ Y ∈ xs, DeadM l h (db :: bs) d Y) →
      (∀ (h20 : PH) (p' : Option Addr) (n' c' b' : Nat), RowIn ptL 1 23 h20 p' n' c' (xs ++ [X]) [b'] → Ext S h h20 → (b' ∈ S ∨ h b' = none) → K (h20.upd db (mapPut es' cl (.int .u64 (d : Int)) (.slice p' n' c')))) →
      xNew h (.cells #[.pointer (some ⟨X.m, 0, none⟩)] 23 (0, 0)) fun b88 h19 => PH.le (h.cut bs) h19 ∧ xApp h19 23 1 8 p n c (.slice (some ⟨b88, 0, none⟩) 1 1) fun qa ql qc h20 => PH.le (h.cut bs) h20 ∧ xPut Try.prog 167 h20 (some db) (.int .u64 (d : Int)) (.slice qa ql qc) fun h21 => K h21 := by
    intro xs p n c S ri hm hS hd hK
    refine xNew_intro fun b88 h19 l19 n88 e88 => ?_
    refine ⟨PH.le_trans (PH.cut_le _ _) l19, ?_⟩
    have ri19 := ri.le l19
    refine ri19.app (x := X) ptL_len (by simp [ptL, mp, oneCell]) e88 (by omega) ?_
    intro p' n' c' h20 S' r20 x20 n20
    have xx : Ext S h h20 := fun y O hy hm => x20 y O (l19 y O hy) hm
    have db20 : h20 db = some (.map es' cl) := xx _ _ e fun hm => ndb (hS _ hm)
    refine ⟨PH.cut_ext (xx.mono fun y hy => hS y hy), db, es', cl, _, rfl, db20, law_uint, ⟨_, rfl⟩, hk, ?_⟩
    obtain ⟨b', hb'⟩ : ∃ b', S' = [b'] := by
      obtain ⟨hn, ⟨h0, _⟩ | ⟨b', junk, _, _, _, _, hS'⟩⟩ := r20
      · simp at h0
      · exact ⟨b', hS'⟩
    subst hb'
    refine hK h20 p' n' c' b' r20 xx ?_
    rcases n20 b' (by simp) with h1 | h1
    · exact .inl h1
    · exact .inr (none_of l19 h1)
  have dm' := dm
  cases hf : findE es'.toList (.int .u64 (d : Int)) 0 with
  | none =>
    have hg : mapGet es' (.int .u64 (d : Int)) = none := by unfold mapGet; rw [hf]; rfl
    rw [hg]
    simp only [Option.getD_none, oS_some]
    refine fin [] none 0 0 [] (RowIn.nil _ _) (by simp) (by simp) (by simp) ?_
    intro h20 p' n' c' b' r20 x20 nb'
    have nb : h b' = none := by rcases nb' with h1 | h1; cases h1; exact h1
    have b'db : b' ≠ db := fun h1 => by subst h1; rw [nb] at e; cases e
    have b'bs : b' ∉ bs := fun hm => by obtain ⟨O, hO⟩ := x.known b' (List.mem_cons_of_mem _ hm); rw [nb] at hO; cases hO
    have hp : mapPut es' cl (.int .u64 (d : Int)) (.slice p' n' c') = .map (es'.push { key := .int .u64 (d : Int), val := .slice p' n' c', born := cl }) (cl + 1) := by unfold mapPut; rw [hf]
    rw [hp]
    have xT : Ext (db :: bs) h (h20.upd db (.map (es'.push { key := .int .u64 (d : Int), val := .slice p' n' c', born := cl }) (cl + 1))) := by
      intro y O hy hm
      rw [PH.upd_ne _ _ (fun h1 => hm (by simp [h1]))]
      exact x20 y O hy (by simp)
    have nT : ∀ b ∈ db :: (bs ++ [b']), b ∈ db :: bs ∨ h b = none := by
      intro b hb
      simp only [List.mem_cons, List.mem_append, List.not_mem_nil, or_false] at hb ⊢
      rcases hb with h1 | h1 | h1
      · exact .inl (.inl h1)
      · exact .inl (.inr h1)
      · subst h1; exact .inr nb
    refine k _ (db :: (bs ++ [b'])) ⟨_, _, bs ++ [b'], PH.upd_same _ _ _, rfl, ?_, by simp [hl], ?_⟩ xT nT
    · rw [List.nodup_cons, List.nodup_append]
      exact ⟨by simp [ndb, Ne.symm b'db], ndbs, by simp, fun a ha b hb => by simp at hb; subst hb; exact fun h1 => b'bs (h1 ▸ ha)⟩
    · intro i en b hi hb
      rw [Array.toList_push] at hi
      by_cases hlt : i < bs.length
      · rw [List.getElem?_append_left (by simpa [hl] using hlt)] at hi
        rw [List.getElem?_append_left hlt] at hb
        have hbm : b ∈ bs := List.mem_of_getElem? hb
        obtain ⟨O, hO⟩ := x.known b (List.mem_cons_of_mem _ hbm)
        refine deadE_le (ha i en b hi hb) (by omega) xT nT ?_
        rw [PH.upd_ne _ _ (fun h1 => ndb (by rw [← h1]; exact hbm)), x20 b O hO (by simp), hO]
      · have hlen := (List.getElem?_eq_some_iff.1 hb).1
        simp at hlen
        have hi' : i = bs.length := by omega
        subst hi'
        rw [List.getElem?_append_right (by simp [hl])] at hi
        rw [List.getElem?_append_right (Nat.le_refl _)] at hb
        simp [hl] at hi hb
        subst hi; subst hb
        refine ⟨d, [X], p', n', c', rfl, rfl, r20.of (by simpa using PH.upd_ne _ _ b'db), by simp, fun Y hY => ?_⟩
        simp only [List.mem_singleton] at hY
        subst hY
        exact dead_le dm xT nT
  | some r =>
    obtain ⟨j, v⟩ := r
    obtain ⟨_, en, h1, h2, h3⟩ := findE_spec hk hf
    simp only [Nat.sub_zero] at h1
    have hj : j < bs.length := by
      have := (List.getElem?_eq_some_iff.1 h1).1
      simpa [hl] using this
    obtain ⟨d', xs, p, n, c, hkk, hv, ri, hm, t⟩ := ha j en bs[j] h1 (List.getElem?_eq_getElem hj)
    rw [hkk] at h2
    have : d' = d := by
      simp only [Value.int.injEq, true_and] at h2
      exact_mod_cast h2
    subst this
    have hg : mapGet es' (.int .u64 (d' : Int)) = some (.slice p n c) := by unfold mapGet; rw [hf]; simp only [Option.map_some]; rw [← h3, hv]
    rw [hg]
    simp only [Option.getD_some, oS_some]
    refine fin xs p n c [bs[j]] ri hm (by simp) t ?_
    intro h20 p' n' c' b' r20 x20 nb'
    have hp : mapPut es' cl (.int .u64 (d' : Int)) (.slice p' n' c') = .map (es'.modify j fun e => { e with key := .int .u64 (d' : Int), val := .slice p' n' c' }) cl := by unfold mapPut; rw [hf]
    rw [hp]
    have b'db : b' ≠ db := by
      rcases nb' with h1 | h1
      · simp at h1; subst h1; exact fun h1 => ndb (h1 ▸ List.getElem_mem hj)
      · intro h2; subst h2; rw [h1] at e; cases e
    have b'bs : ∀ i (hi : i < bs.length), i ≠ j → b' ≠ bs[i] := by
      intro i hi hij
      rcases nb' with h1 | h1
      · simp at h1; subst h1
        intro h2
        exact hij (nodup_inj ndbs _ _ h2).symm
      · intro h2
        obtain ⟨O, hO⟩ := x.known bs[i] (List.mem_cons_of_mem _ (List.getElem_mem hi))
        rw [← h2, h1] at hO; cases hO
    have xT : Ext (db :: bs) h (h20.upd db (.map (es'.modify j fun e => { e with key := .int .u64 (d' : Int), val := .slice p' n' c' }) cl)) := by
      intro y O hy hm
      rw [PH.upd_ne _ _ (fun h1 => hm (by simp [h1]))]
      exact x20 y O hy (fun h1 => hm (by simp at h1; subst h1; exact List.mem_cons_of_mem _ (List.getElem_mem hj)))
    have nT : ∀ b ∈ db :: bs.set j b', b ∈ db :: bs ∨ h b = none := by
      intro b hb
      rcases List.mem_cons.1 hb with h1 | h1
      · exact .inl (by simp [h1])
      · rcases List.mem_or_eq_of_mem_set h1 with h1 | h1
        · exact .inl (List.mem_cons_of_mem _ h1)
        · subst h1
          rcases nb' with h1 | h1
          · simp at h1; subst h1; exact .inl (List.mem_cons_of_mem _ (List.getElem_mem hj))
          · exact .inr h1
    refine k _ (db :: bs.set j b') ⟨_, _, bs.set j b', PH.upd_same _ _ _, rfl, ?_, by simp [hl], ?_⟩ xT nT
    · rw [List.nodup_cons]
      refine ⟨fun hm => ?_, ?_⟩
      · rcases List.mem_or_eq_of_mem_set hm with h1 | h1
        · exact ndb h1
        · exact b'db h1.symm
      · exact nodup_set ndbs j b' b'bs
    · intro i en' b hi hb
      rw [Array.toList_modify, List.getElem?_modify] at hi
      rw [List.getElem?_set] at hb
      by_cases e1 : j = i
      · subst e1
        simp only [if_true, hj, Option.some.injEq] at hb
        subst hb
        simp only [if_true, h1, Option.map_eq_map, Option.map_some, Option.some.injEq] at hi
        subst hi
        refine ⟨d', xs ++ [X], p', n', c', rfl, rfl, r20.of (by simpa using PH.upd_ne _ _ b'db), by simp; omega, fun Y hY => ?_⟩
        rcases List.mem_append.1 hY with hY | hY
        · exact dead_le (t Y hY) xT nT
        · simp only [List.mem_singleton] at hY
          subst hY
          exact dead_le dm xT nT
      · simp only [e1, if_false] at hb hi
        have hi' : es'.toList[i]? = some en' := by simpa using hi
        have hbl := (List.getElem?_eq_some_iff.1 hb).1
        have hbe := (List.getElem?_eq_some_iff.1 hb).2
        have hbm : b ∈ bs := List.mem_of_getElem? hb
        obtain ⟨O, hO⟩ := x.known b (List.mem_cons_of_mem _ hbm)
        refine deadE_le (ha i en' b hi' hb) (by omega) xT nT ?_
        rw [PH.upd_ne _ _ (fun h1 => ndb (by rw [← h1]; exact hbm)), hO]
        refine x20 b O hO (fun h1 => ?_)
        simp only [List.mem_singleton] at h1
        rw [← hbe] at h1
        exact e1 (nodup_inj ndbs _ _ h1).symm

end Go.Ck

/-
  The search, whole; what is asked of calls.
-/
set_option linter.unusedSimpArgs false
set_option linter.unusedVariables false
namespace Go.Ck
open Go Go.Sx Go.Md Go.Proofs Go.Proofs.Ytnnedfhpicdacaa

/-- What the search tells. -/
def Told (g h' : PH) (v : Value) : Option (List Nat) → Prop
  | none => v = .tuple #[.slice none 0 0, .bool false]
  | some ks => ∃ p m c S, v = .tuple #[.slice p m c, .bool true] ∧ IntsIn h' p m c (ks.map fun (k : Nat) => (k : Int)) S ∧ ∀ b ∈ S, g b = none
/-- One candidate. -/
def cand (l : List Cl) (f done : Nat) (s : Ms) (k : Nat) : Option (List Nat) := if (freeK l done k && s.code (cl l k).event == 0) = true then (srch l f (done ||| 2 ^ k) (s.next (cl l k).event)).map (k :: ·) else none
theorem srch_succ (l : List Cl) (f done : Nat) (s : Ms) : srch l (f + 1) done s = (List.range l.length).findSome? (cand l f done s) := rfl

theorem valid_len {l : List Cl} : ∀ (f d : Nat) (s : Ms) (ks : List Nat), srch l f d s = some ks → ks.length ≤ f := by
  intro f
  induction f with
  | zero => intro d s ks h; simp only [srch, Option.some.injEq] at h; subst h; simp
  | succ f ih =>
    intro d s ks h
    unfold srch at h
    obtain ⟨k, hk, hh⟩ := List.exists_of_findSome?_eq_some h
    split at hh
    · cases hr : srch l f (d ||| 2 ^ k) (s.next (cl l k).event) with
      | none => rw [hr] at hh; cases hh
      | some r =>
        rw [hr] at hh
        simp only [Option.map_some, Option.some.injEq] at hh
        subst hh
        have := ih _ _ _ hr
        simp; omega
    · cases hh

set_option maxHeartbeats 4000000 in
theorem meets_rest {l : List Cl} (n60 : l.length ≤ 60) (may : ∀ c ∈ l, c.may = true) {g : PH} {sp db : Nat} {ca oa : Option Addr} {cc oc : Nat} (gs : g sp = some (.cells #[.slice ca l.length cc, .slice oa l.length oc, .map (some db)] 165 (0, 0))) (xc : ClsAt g ca l) (xo : RecsAt uL 1 g oa ((List.range l.length).map (ovr l))) :
    ∀ (f : Nat) (h : PH) (T : List Nat) (M : Nat) (L : ML) (s : Ms) (done : Nat), g.le h → (∀ b ∈ T, g b = none) → DeadAt l h db T M → M + cost f ≤ 100000000000 → MRep h L s → s.Ok → s.Flat → (∀ y ∈ L.all, y ∉ T) → done < 2 ^ l.length → leftN l done = f →
      Meets Try.prog 89 #[.pointer (some ⟨sp, 0, none⟩), .int .u64 (done : Int), mp L] h fun v h' => Told g h' v (srch l f done s) ∧ ∃ T', DeadAt l h' db T' (M + cost f) ∧ Ext T h h' ∧ ∀ b ∈ T', b ∈ T ∨ h b = none := by
  have pow60 : 2 ^ l.length < 2 ^ 64 := Nat.pow_lt_pow_right (by decide) (by omega)
  intro f
  induction f with
  | zero =>
    intro h T M L s done gl gT dead hM r ks flat LT hd hf
    have hdone := full_of_left hd hf
    apply P_check_search_rest_of
    unfold P_check_search_rest
    have hs := gl _ _ gs
    simp only [xNn_some, add_mk, cell_mk, upd_at, del_at, if_true, if_false, Option.bind_some, List.getElem?_toArray, List.getElem?_cons_succ, List.getElem?_cons_zero, oI_some, oS_some, oM_some, oB_some, oP_some, oT_some, xIdx_some, Nat.zero_add, Nat.add_zero, Nat.mul_one, hs]
    refine ⟨by omega, ?_⟩
    have hsh := shl_one l.length (by omega)
    have hsub : (((2 ^ l.length : Nat) : Int) - 1) = ((2 ^ l.length - 1 : Nat) : Int) := by
      have : 1 ≤ 2 ^ l.length := Nat.one_le_two_pow
      omega
    have hwr := wrapU (2 ^ l.length - 1) (by omega)
    simp only [hsh, hsub, hwr]
    refine ⟨fun _ => ?_, fun hx => (by rw [← hdone] at hx; simp at hx)⟩
    refine ⟨⟨none, 0, 0, [], rfl, IntsIn.nil _, by simp⟩, T, dead.more (by omega), Ext.refl _ _, fun b hb => .inl hb⟩
  | succ f ih =>
    intro h T M L s done gl gT dead hM r ks flat LT hd hf
    have hne : done ≠ 2 ^ l.length - 1 := fun h => by subst h; rw [left_full] at hf; cases hf
    have hM1 : M + 1 + (f + 1) * cost f ≤ 100000000000 := by simp only [cost] at hM; omega
    have d64 : done < 2 ^ 64 := by omega
    apply P_check_search_rest_of
    unfold P_check_search_rest
    have hs := gl _ _ gs
    have sT : sp ∉ T := fun hm => by rw [gT sp hm] at gs; cases gs
    simp only [xNn_some, add_mk, cell_mk, upd_at, del_at, if_true, if_false, Option.bind_some, List.getElem?_toArray, List.getElem?_cons_succ, List.getElem?_cons_zero, oI_some, oS_some, oM_some, oB_some, oP_some, oT_some, xIdx_some, Nat.zero_add, Nat.add_zero, Nat.mul_one, hs]
    refine ⟨by omega, ?_⟩
    have hsh := shl_one l.length (by omega)
    have hsub : (((2 ^ l.length : Nat) : Int) - 1) = ((2 ^ l.length - 1 : Nat) : Int) := by
      have : 1 ≤ 2 ^ l.length := Nat.one_le_two_pow
      omega
    have hwr := wrapU (2 ^ l.length - 1) (by omega)
    simp only [hsh, hsub, hwr]
    refine ⟨fun hx => ?_, fun _ => ?_⟩
    · exfalso
      have : done = 2 ^ l.length - 1 := by
        have := beq_iff_eq.1 hx
        exact_mod_cast this
      exact hne this
    refine (meets_isDead hs dead (by omega) r flat done).mono ?_
    rintro _ _ ⟨⟨b, rfl, hb⟩, rfl⟩
    rename_i h
    simp only [oB_some]
    refine ⟨fun hx => ?_, fun _ => ?_⟩
    · have := hb hx
      rw [hf] at this
      rw [this]
      exact ⟨rfl, T, dead.more (by omega), Ext.refl _ _, fun b hb => .inl hb⟩
    clear hb
    simp only [xNn_some, add_mk, cell_mk, upd_at, del_at, if_true, if_false, Option.bind_some, List.getElem?_toArray, List.getElem?_cons_succ, List.getElem?_cons_zero, oI_some, oS_some, oM_some, oB_some, oP_some, oT_some, xIdx_some, Nat.zero_add, Nat.add_zero, Nat.mul_one, hs]
    -- what is known between rounds
    let I : Nat → PH → Prop := fun i h' => ∃ T' M', DeadAt l h' db T' M' ∧ M' ≤ M + cnt done i * cost f ∧ Ext T h h' ∧ (∀ b ∈ T', b ∈ T ∨ h b = none) ∧ ∀ k, k < i → cand l f done s k = none
    refine xBlk_split (I l.length) ?_ fun K hK => ?_
    · rintro h1 ⟨T1, M1, dead1, hM1', x1, n1, no⟩
      have hc : cnt done l.length = f + 1 := hf
      rw [hc] at hM1'
      have gl1 : g.le h1 := fun y O hy => x1 y O (gl y O hy) fun hm => by rw [gT y hm] at hy; cases hy
      have gT1 : ∀ b ∈ T1, g b = none := fun b hb => by rcases n1 b hb with h' | h'; exact gT b h'; exact none_of gl h'
      have sT1 : sp ∉ T1 := fun hm => by rw [gT1 sp hm] at gs; cases gs
      have LT1 : ∀ y ∈ L.all, y ∉ T1 := fun y hy hm => by
        rcases n1 y hm with h' | h'
        · exact LT y hy h'
        · obtain ⟨O, hO⟩ := r.known y hy; rw [h'] at hO; cases hO
      have none_ : srch l (f + 1) done s = none := by
        rw [srch_succ, List.findSome?_eq_none_iff]
        intro k hk
        exact no k (by simpa using hk)
      have dm : DeadM l h1 T1 done L := ⟨s, r.ext x1 LT, flat, by rw [hf]; exact none_, LT1⟩
      have hMM : M1 ≤ 1000000000000 := by omega
      have tail := fun (K : PH → Prop) k => dead_tail (K := K) (gl1 _ _ gs) dead1 hMM sT1 dm k
      simp only [xNn_some, add_mk, cell_mk, upd_at, del_at, if_true, if_false, Option.bind_some, List.getElem?_toArray, List.getElem?_cons_succ, List.getElem?_cons_zero, oI_some, oS_some, oM_some, oB_some, oP_some, oT_some, xIdx_some, Nat.zero_add, Nat.add_zero, Nat.mul_one] at tail
      refine tail _ ?_
      intro h2 T2 dead2 x2 n2
      rw [none_]
      refine ⟨rfl, T2, dead2.more (by simp only [cost]; omega), ?_, ?_⟩
      · intro y O hy hm
        refine x2 y O (x1 y O hy hm) fun hm1 => ?_
        rcases n1 y hm1 with h' | h'
        · exact hm h'
        · rw [hy] at h'; cases h'
      · intro b hb
        rcases n2 b hb with h' | h'
        · exact n1 b h'
        · by_cases hm : b ∈ T
          · exact .inl hm
          · right
            cases hh : h b with
            | none => rfl
            | some O => rw [x1 b O hh hm] at h'; cases h'
    refine xLoop1 (fun (i : Int) h' => 0 ≤ i ∧ i ≤ l.length ∧ I i.toNat h') (fun (i : Int) _ => ((l.length : Int) - i).toNat) ?_ ⟨by omega, by omega, T, M, dead, by omega, Ext.refl _ _, fun b hb => .inl hb, fun k hk => by simp at hk⟩
    rintro J i h1 ⟨i0, i1, hI⟩ hJ
    refine ⟨fun hx => ?_, fun hx => ?_⟩
    rotate_left
    · have hx := of_decide_eq_false hx
      have : i.toNat = l.length := by omega
      rw [this] at hI
      exact hK _ hI
    have hx := of_decide_eq_true hx
    have hw : IntKind.wrap .i64 (i + 1) = i + 1 := wrap64_id (by omega) (by omega)
    have hi : i.toNat < l.length := by omega
    have hic : i = ((i.toNat : Nat) : Int) := by omega
    have step : ∀ h', I (i.toNat + 1) h' → J (i + 1) h' := fun h' k' => hJ _ _ ⟨by omega, by omega, by rw [show (i + 1).toNat = i.toNat + 1 from by omega]; exact k'⟩ (by omega)
    clear hJ hK
    generalize hk : i.toNat = k at hi hic hI step
    clear hk
    subst hic
    refine xBlk_split (I (k + 1)) (fun h' k' => by rw [hw]; exact step h' k') fun K hK => ?_
    clear step
    obtain ⟨T1, M1, dead1, hM1', x1, n1, no⟩ := hI
    have gl1 : g.le h1 := fun y O hy => x1 y O (gl y O hy) fun hm => by rw [gT y hm] at hy; cases hy
    have gT1 : ∀ b ∈ T1, g b = none := fun b hb => by rcases n1 b hb with h' | h'; exact gT b h'; exact none_of gl h'
    have sT1 : sp ∉ T1 := fun hm => by rw [gT1 sp hm] at gs; cases gs
    have LT1 : ∀ y ∈ L.all, y ∉ T1 := fun y hy hm => by
      rcases n1 y hm with h' | h'
      · exact LT y hy h'
      · obtain ⟨O, hO⟩ := r.known y hy; rw [h'] at hO; cases hO
    have r1 := r.ext x1 LT
    obtain ⟨b, hb, c0, c1, c2, c3, c4, c5, c6⟩ := cls_at (xc.le gl1) (List.getElem?_eq_getElem hi)
    have hcl : cl l k = l[k] := by simp [cl, List.getD_eq_getElem?_getD, hi]
    rw [← hcl] at c0 c1 c2 c3 c4 c5 c6
    refine ⟨b, hb, i0, hx, ?_⟩
    simp only [Int.toNat_natCast, c0, c1, c2, c3, c4, c5, c6, oI_some]
    clear c0 c1 c2 c3 c4 c5 c6
    refine xBox rfl rfl rfl (by decide) (clL_one (cl l k)) fun b9 h2 l2 n9 e9 => ?_
    have e9' : h2 b9 = some (.cells (clL (cl l k)).toArray 61 (0, 0)) := e9
    clear e9
    have gl2 := PH.le_trans gl1 l2
    have r2 := r1.le l2
    have dead2 := dead1.le l2
    have k64 : k < 64 := by omega
    have k60 : k < 60 := by omega
    refine ⟨i0, ?_⟩
    simp only [shr_bit done k k64 d64]
    have hs2 := gl2 _ _ gs
    -- where the call is passed over
    have skip : cand l f done s k = none → ∀ h', (∃ T' M', DeadAt l h' db T' M' ∧ M' ≤ M + cnt done k * cost f ∧ Ext T h h' ∧ (∀ b ∈ T', b ∈ T ∨ h b = none)) → K h' := by
      rintro hc h' ⟨T', M', a1, a2, a3, a4⟩
      refine hK _ ⟨T', M', a1, Nat.le_trans a2 (Nat.add_le_add_left (Nat.mul_le_mul_right _ (cnt_mono done k)) _), a3, a4, fun k' hk' => ?_⟩
      by_cases e : k' = k
      · subst e; exact hc
      · exact no k' (by omega)
    have x2 : Ext T h h2 := x1.trans' (Ext.of_le l2)
    refine xSc_or (IntKind.wrap .u64 (BitVec.ofInt (IntKind.bits .u64) ((ovr l k : Nat) : Int) &&& ~~~(BitVec.ofInt (IntKind.bits .u64) (done : Int))).toNat != 0) (fun _ J hJ => ?_) ?_
    · simp only [xNn_some, add_mk, cell_mk, upd_at, del_at, if_true, if_false, Option.bind_some, List.getElem?_toArray, List.getElem?_cons_succ, List.getElem?_cons_zero, oI_some, oS_some, oM_some, oB_some, oP_some, oT_some, xIdx_some, Nat.zero_add, Nat.add_zero, Nat.mul_one, hs2]
      obtain ⟨b', hb', hcell⟩ := (xo.le gl2).at_ k (ovr l k) (by simp [hi])
      have c0 := hcell 0 _ rfl
      rw [add_zero'] at c0
      refine ⟨b', hb', i0, hx, ?_⟩
      simp only [Int.toNat_natCast, c0, oI_some]
      exact hJ
    rw [free_code l done k (by omega) d64 k64]
    refine ⟨fun hfr => ?_, fun hfr => ?_⟩
    · have hfr : freeK l done k = false := by simpa using hfr
      exact skip (by unfold cand; rw [hfr]; rfl) _ ⟨T1, M1, dead2, hM1', x2, n1⟩
    have hfr : freeK l done k = true := by simpa using hfr
    refine (meets_Clone r2).mono ?_
    rintro _ h3 ⟨C, rfl, r3, l3, n3⟩
    simp only [mp, oP_some]
    have e93 := l3 _ _ e9'
    simp only [xNn_some, add_mk, cell_mk, upd_at, del_at, if_true, if_false, Option.bind_some, List.getElem?_toArray, List.getElem?_cons_succ, List.getElem?_cons_zero, oI_some, oS_some, oM_some, oB_some, oP_some, oT_some, xIdx_some, Nat.zero_add, Nat.add_zero, Nat.mul_one, e93, clL]
    refine (meets_Apply r3 (cl l k).event ks.few).mono ?_
    rintro _ h4 ⟨rfl, r4, x4⟩
    simp only [oI_some]
    -- all but the clone is as it was
    have l24 : h2.le h4 := fun y O hy => x4 y O (l3 y O hy) fun hm => by rw [n3 y hm] at hy; cases hy
    have dead4 := dead2.le l24
    have gl4 := PH.le_trans gl2 l24
    have x14 : Ext T h h4 := x2.trans' (Ext.of_le l24)
    refine ⟨fun hc => ?_, fun hc => ?_⟩
    · have hc : s.code (cl l k).event ≠ 0 := by simpa using hc
      refine skip ?_ _ ⟨T1, M1, dead4, hM1', x14, n1⟩
      unfold cand
      rw [if_neg (by simp [hc])]
    have hc : s.code (cl l k).event = 0 := by simpa using hc
    refine ⟨i0, ?_⟩
    have e2 := shl_one k k64
    simp only [e2, or_bits _ _ d64 (Nat.pow_lt_pow_right (by decide) k64)]
    have lk := left_or hi (free_bit hfr)
    have CT : ∀ y ∈ C.all, y ∉ T1 := fun y hy hm => by
      obtain ⟨O, hO⟩ := dead2.known y hm
      rw [n3 y hy] at hO; cases hO
    have cb : done.testBit k = false := free_bit hfr
    have cs : cnt done (k + 1) = cnt done k + 1 := by rw [cnt_succ, cb]; rfl
    have cle : cnt done (k + 1) ≤ f + 1 := by
      have : ∀ q, k + 1 + q = l.length → cnt done (k + 1) ≤ cnt done l.length := by
        intro q
        have : ∀ q m, cnt done m ≤ cnt done (m + q) := by
          intro q
          induction q with
          | zero => intro m; exact Nat.le_refl _
          | succ q ihq => intro m; exact Nat.le_trans (ihq m) (cnt_mono _ _)
        intro hq
        rw [← hq]; exact this q (k + 1)
      have h2 := this (l.length - (k + 1)) (by omega)
      have h3 : cnt done l.length = f + 1 := hf
      omega
    have hb1 : M1 + cost f ≤ M + cnt done (k + 1) * cost f := by rw [cs, Nat.add_mul]; omega
    have hb2 : M + cnt done (k + 1) * cost f ≤ M + (f + 1) * cost f := Nat.add_le_add_left (Nat.mul_le_mul_right _ cle) _
    refine (ih h4 T1 M1 C (s.next (cl l k).event) (done ||| 2 ^ k) gl4 gT1 dead4 (by omega) r4 (next_ok ks _) (flat_next flat (may _ (by rw [hcl]; exact List.getElem_mem hi))) CT (or_lt hd hi) (by omega)).mono ?_
    rintro v h5 ⟨told, T5, dead5, x5, n5⟩
    have x15 : Ext T h h5 := fun y O hy hm => x5 y O (x14 y O hy hm) fun hm1 => by
      rcases n1 y hm1 with h' | h'
      · exact hm h'
      · rw [hy] at h'; cases h'
    have n15 : ∀ b ∈ T5, b ∈ T ∨ h b = none := fun b hb => by
      rcases n5 b hb with h' | h'
      · exact n1 b h'
      · by_cases hm : b ∈ T
        · exact .inl hm
        · right
          cases hh : h b with
          | none => rfl
          | some O => rw [x14 b O hh hm] at h'; cases h'
    cases hr : srch l f (done ||| 2 ^ k) (s.next (cl l k).event) with
    | none =>
      rw [hr] at told
      have told : v = .tuple #[.slice none 0 0, .bool false] := told
      subst told
      simp only [oTup_mk, oIx_some, oS_some, oB_some, List.getElem?_toArray, List.getElem?_cons_zero, List.getElem?_cons_succ]
      refine ⟨rfl, fun hx => (by cases hx), fun _ => ?_⟩
      refine hK _ ⟨T5, M1 + cost f, dead5, hb1, x15, n15, fun k' hk' => ?_⟩
      by_cases e : k' = k
      · subst e
        unfold cand
        rw [hr]; simp
      · exact no k' (by omega)
    | some ks' =>
      rw [hr] at told
      obtain ⟨p, m, c, S, rfl, ints, nS⟩ := told
      simp only [oTup_mk, oIx_some, oS_some, oB_some, List.getElem?_toArray, List.getElem?_cons_zero, List.getElem?_cons_succ]
      refine ⟨rfl, fun _ => ?_, fun hx => (by cases hx)⟩
      refine xNew_intro fun b72 h6 l6 n72 e72 => ?_
      have ints6 := ints.of (h' := h6) fun b hb => by
        have := ints.known b hb
        cases hh : h5 b with
        | none => exact absurd hh this
        | some O => exact l6 _ _ hh
      have hlen := valid_len f _ _ _ hr
      have hflen : f ≤ 60 := by
        have : leftN l done ≤ l.length := by
          unfold leftN
          exact Nat.le_trans (List.length_filter_le _ _) (by simp)
        omega
      refine app_ints ints6 e72 (by simp; omega) ?_
      intro p' m' c' h7 S' i7 x7 n7
      have found : srch l (f + 1) done s = some (k :: ks') := by
        rw [srch_succ]
        refine findSome_range _ _ k hi _ ?_ no
        unfold cand
        rw [if_pos (by simp [hfr, hc]), hr]; rfl
      rw [found]
      have h57 : h5.le h7 := fun y O hy => x7 y O (l6 y O hy) fun hm => by
        simp only [List.mem_singleton] at hm
        subst hm; rw [n72] at hy; cases hy
      have gl5 : g.le h5 := fun y O hy => x15 y O (gl y O hy) fun hm => by rw [gT y hm] at hy; cases hy
      refine ⟨⟨p', m', c', S', rfl, by simpa using i7, fun b hb => ?_⟩, T5, (dead5.le h57).more (by simp only [cost]; omega), x15.trans' (Ext.of_le h57), n15⟩
      rcases n7 b hb with h' | h'
      · subst h'; exact none_of gl5 n72
      · exact none_of gl5 (none_of l6 h')

end Go.Ck

/-
  What is asked of calls: ask, Can, Order.
-/
set_option linter.unusedSimpArgs false
set_option linter.unusedVariables false
namespace Go.Ck
open Go Go.Sx Go.Md Go.Proofs Go.Proofs.Ytnnedfhpicdacaa

theorem cost_le : ∀ f, f ≤ 12 → 0 + cost f ≤ 100000000000 := by decide
/-- Which error is told. -/
def askE (t o m : Int) (l : List Cl) : Int := if newOk t o m = false then 1 else if l.all Cl.may = false then 1 else if l.length > 12 then 5 else 0

theorem askE_cases (t o m : Int) (l : List Cl) : (newOk t o m = false ∧ askE t o m l = 1) ∨ (newOk t o m = true ∧ l.all Cl.may = false ∧ askE t o m l = 1) ∨ (newOk t o m = true ∧ l.all Cl.may = true ∧ l.length > 12 ∧ askE t o m l = 5) ∨ (newOk t o m = true ∧ l.all Cl.may = true ∧ l.length ≤ 12 ∧ askE t o m l = 0) := by
  unfold askE
  cases h1 : newOk t o m with
  | false => left; simp
  | true =>
    cases h2 : l.all Cl.may with
    | false => right; left; simp
    | true =>
      by_cases h3 : l.length > 12
      · right; right; left; simp [h3]
      · right; right; right
        have : ¬12 < l.length := by omega
        simp [this]; omega

theorem newOk_rng {t o m : Int} (h : newOk t o m = true) : t ≤ 8 ∧ o ≤ 8 := by
  have hr : (1 ≤ t ∧ t ≤ 8) ∧ (1 ≤ o ∧ o ≤ 8) ∧ (1 ≤ m ∧ m ≤ 60) := by simpa [newOk, inRange] using h
  exact ⟨hr.1.2, hr.2.1.2⟩

/-- An order that is told. -/
def Ordered (h h' : PH) (p : Option Addr) (n c : Nat) (ok : Bool) : Option (List Nat) → Prop
  | none => p = none ∧ n = 0 ∧ c = 0 ∧ ok = false
  | some ks => ok = true ∧ ∃ S, IntsIn h' p n c (ks.map fun (k : Nat) => (k : Int)) S ∧ ∀ b ∈ S, h b = none

set_option maxHeartbeats 1000000 in
theorem meets_ask {h : PH} {a : Option Addr} {n c : Nat} {l : List Cl} (x : ClsAt h a l) (hl : l.length = n) (hn : n ≤ 1000000) (t o m : Int) :
    Meets Try.prog 61 #[.int .i64 t, .int .i64 o, .int .i64 m, .slice a n c] h fun v h' => h.le h' ∧ ∃ p k c' ok, v = .tuple #[.slice p k c', .bool ok, .int .i64 (askE t o m l)] ∧
      Ordered h h' p k c' ok (if askE t o m l = 0 then srch l l.length 0 (Ms.new t o m) else none) := by
  apply P_check_ask_of
  unfold P_check_ask
  have bad : ∀ (h' : PH) (e : Int), h.le h' → e ≠ 0 → askE t o m l = e → h.le h' ∧ ∃ p k c' ok, (Value.tuple #[.slice none 0 0, .bool false, .int .i64 e]) = .tuple #[.slice p k c', .bool ok, .int .i64 (askE t o m l)] ∧
      Ordered h h' p k c' ok (if askE t o m l = 0 then srch l l.length 0 (Ms.new t o m) else none) := by
    intro h' e le hne he
    refine ⟨le, none, 0, 0, false, by rw [he], ?_⟩
    rw [if_neg (by rw [he]; exact hne)]
    exact ⟨rfl, rfl, rfl, rfl⟩
  rcases askE_cases t o m l with ⟨a1, ae⟩ | a1
  · refine (meets_New_no t o m a1).look ?_
    simp only [oTup_mk, oIx_some, oP_some, oI_some, List.getElem?_toArray, List.getElem?_cons_zero, List.getElem?_cons_succ]
    exact ⟨rfl, fun _ => bad _ 1 (PH.le_refl _) (by decide) ae, fun hx => (by cases hx)⟩
  have ok : newOk t o m = true := by rcases a1 with a1 | a1 | a1 <;> exact a1.1
  obtain ⟨ht, ho⟩ := newOk_rng ok
  refine (meets_New t o m ok).mono ?_
  rintro _ h1 ⟨w, rfl, f⟩
  obtain ⟨L, rfl, r, l1, nL⟩ := f
  have k0 := new_ok t o m ht ho
  have fl0 : (Ms.new t o m).Flat := ⟨rfl, rfl⟩
  have hs0 : (if askE t o m l = 0 then srch l l.length 0 (Ms.new t o m) else none) = if askE t o m l = 0 then srch l l.length 0 (Ms.new t o m) else none := rfl
  generalize Ms.new t o m = s0 at r k0 fl0 bad ⊢
  simp only [mp, oTup_mk, oIx_some, oP_some, oI_some, List.getElem?_toArray, List.getElem?_cons_zero, List.getElem?_cons_succ]
  refine ⟨rfl, fun hx => (by cases hx), fun _ => ?_⟩
  refine xBlk_split (fun h' => l.all Cl.may = true ∧ h1.le h') ?_ fun K hK => ?_
  rotate_left
  · refine xLoop1 (fun (i : Int) h' => 0 ≤ i ∧ i ≤ n ∧ (∀ k, (hk : k < i.toNat) → (cl l k).may = true) ∧ h1.le h') (fun (i : Int) _ => ((n : Int) - i).toNat) ?_ ⟨by omega, by omega, fun k hk => (by simp at hk), PH.le_refl _⟩
    rintro J i h2 ⟨i0, i1, pre, l2⟩ hJ
    refine ⟨fun hx => ?_, fun hx => ?_⟩
    · have hx := of_decide_eq_true hx
      have hw : IntKind.wrap .i64 (i + 1) = i + 1 := wrap64_id (by omega) (by omega)
      have hi : i.toNat < l.length := by omega
      have step : ∀ h', (cl l i.toNat).may = true → h1.le h' → J (i + 1) h' := fun h' hm l' => hJ _ _ ⟨by omega, by omega, fun k hk => by
        by_cases e : k = i.toNat
        · rw [e]; exact hm
        · exact pre k (by omega), l'⟩ (by omega)
      obtain ⟨b, rfl, c0, c1, c2, c3, c4, c5, c6⟩ := cls_at (x.le (PH.le_trans l1 l2)) (List.getElem?_eq_getElem hi)
      have hcl : cl l i.toNat = l[i.toNat] := by simp [cl, List.getD_eq_getElem?_getD, hi]
      rw [← hcl] at c0 c1 c2 c3 c4 c5 c6
      clear hJ hK
      refine xBlk_split (fun h' => (cl l i.toNat).may = true ∧ h1.le h') (fun h' ⟨hm, l'⟩ => by rw [hw]; exact step h' hm l') fun K hK => ?_
      clear step
      refine ⟨b, rfl, i0, hx, ?_⟩
      simp only [c0, c1, c2, c3, c4, c5, c6, oI_some]
      refine xBox rfl rfl rfl (by decide) (clL_one (cl l i.toNat)) fun b6 h3 l3 n6 e3 => ?_
      have e3' : h3 b6 = some (.cells (clL (cl l i.toNat)).toArray 61 (0, 0)) := e3
      simp only [xNn_some, add_mk, cell_mk, upd_at, del_at, if_true, if_false, Option.bind_some, List.getElem?_toArray, List.getElem?_cons_succ, List.getElem?_cons_zero, oI_some, oS_some, oM_some, oB_some, oP_some, oT_some, xIdx_some, Nat.zero_add, Nat.add_zero, Nat.mul_one, e3', clL]
      refine (meets_cMay (cl l i.toNat)).look ?_
      simp only [oB_some]
      have le3 := PH.le_trans l2 l3
      refine ⟨fun hb => ?_, fun hb => ?_⟩
      · have hb : (cl l i.toNat).may = false := by simpa using hb
        refine bad _ 1 (PH.le_trans l1 le3) (by decide) ?_
        have : l.all Cl.may = false := by
          rw [List.all_eq_false]
          exact ⟨l[i.toNat], List.getElem_mem hi, by rw [← hcl, hb]; simp⟩
        rcases a1 with a1 | a1 | a1
        · exact a1.2.2
        · rw [this] at a1; cases a1.2.1
        · rw [this] at a1; cases a1.2.1
      · exact hK _ ⟨by simpa using hb, le3⟩
    · have hx := of_decide_eq_false hx
      refine hK _ ⟨?_, l2⟩
      rw [List.all_eq_true]
      intro y hy
      obtain ⟨k, hk, rfl⟩ := List.getElem_of_mem hy
      have := pre k (by omega)
      have hcl : cl l k = l[k] := by simp [cl, List.getD_eq_getElem?_getD, hk]
      rw [hcl] at this; exact this
  rintro h2 ⟨hm, l2⟩
  have le2 := PH.le_trans l1 l2
  refine ⟨fun hx => ?_, fun hx => ?_⟩
  · have hx := of_decide_eq_true hx
    refine bad _ 5 le2 (by decide) ?_
    rcases a1 with a1 | a1 | a1
    · rw [hm] at a1; cases a1.2.1
    · exact a1.2.2.2
    · omega
  have hx := of_decide_eq_false hx
  have e0 : askE t o m l = 0 := by
    rcases a1 with a1 | a1 | a1
    · rw [hm] at a1; cases a1.2.1
    · omega
    · exact a1.2.2.2
  have n12 : l.length ≤ 12 := by omega
  subst hl
  refine (meets_ahead (x.le le2) rfl (by omega)).mono ?_
  rintro _ h3 ⟨p3, c3, S3, rfl, row, l3, n3⟩
  simp only [oS_some]
  refine xNew_intro fun b43 h4 l4 n43 e43 => ?_
  refine xNew_intro fun b45 h5 l5 n45 e45 => ?_
  have r5 := (((r.le l2).le l3).le l4).le l5
  have n435 : b43 ≠ b45 := ne_of_known e43 n45
  have e43' := l5 _ _ e43
  -- what is known but for the map
  have g5 : (h5.cut [b43]).le h5 := PH.cut_le _ _
  have le25 : h2.le h5 := PH.le_trans l3 (PH.le_trans l4 l5)
  have m43 : h3 b43 = none := n43
  have le3c : h3.le (h5.cut [b43]) := fun y O hy => by
    have : y ∉ [b43] := fun hm => by simp at hm; subst hm; rw [m43] at hy; cases hy
    rw [PH.cut_at this]; exact l5 _ _ (l4 _ _ hy)
  have gs : (h5.cut [b43]) b45 = some (.cells #[.slice a l.length c, .slice p3 l.length c3, .map (some b43)] 165 (0, 0)) := by
    rw [PH.cut_at (by simp [Ne.symm n435])]; exact e45
  have dead0 : DeadAt l h5 b43 [b43] 0 := ⟨#[], 0, [], e43', rfl, by simp, rfl, fun i e b hi _ => (by simp at hi)⟩
  have LT : ∀ y ∈ L.all, y ∉ [b43] := fun y hy hm => by
    simp at hm; subst hm
    obtain ⟨O, hO⟩ := (((r.le l2).le l3)).known _ hy
    rw [m43] at hO; cases hO
  have rest := meets_rest (l := l) (by omega) (fun c hc => by have := List.all_eq_true.1 hm; exact this c hc) gs (x.le (PH.le_trans le2 (PH.le_trans l3 le3c))) ((row.recs uL_len).le le3c) l.length h5 [b43] 0 L s0 0 g5 (fun b hb => by simp only [PH.cut, hb, if_true]) dead0 (cost_le _ n12) r5 k0 fl0 LT (by have := Nat.two_pow_pos l.length; omega) (left_start l)
  refine rest.mono ?_
  rintro v h6 ⟨told, T6, _, x6, _⟩
  rw [if_pos e0]
  have le6 : h.le h6 := fun y O hy => by
    have h3y := l3 _ _ (le2 _ _ hy)
    refine x6 y O (l5 _ _ (l4 _ _ h3y)) fun hm => ?_
    simp at hm; subst hm; rw [m43] at h3y; cases h3y
  have gnone : ∀ b, (h5.cut [b43]) b = none → h b = none := fun b hb => none_of (PH.le_trans le2 (PH.le_trans l3 le3c)) hb
  cases hr : srch l l.length 0 s0 with
  | none =>
    rw [hr] at told
    have told : v = .tuple #[.slice none 0 0, .bool false] := told
    subst told
    simp only [oTup_mk, oIx_some, oS_some, oB_some, List.getElem?_toArray, List.getElem?_cons_zero, List.getElem?_cons_succ]
    exact ⟨rfl, le6, none, 0, 0, false, by rw [e0], rfl, rfl, rfl, rfl⟩
  | some ks =>
    rw [hr] at told
    obtain ⟨p, q, c', S, rfl, ints, nS⟩ := told
    simp only [oTup_mk, oIx_some, oS_some, oB_some, List.getElem?_toArray, List.getElem?_cons_zero, List.getElem?_cons_succ]
    exact ⟨rfl, le6, p, q, c', true, by rw [e0], rfl, S, ints, fun b hb => gnone b (nS b hb)⟩

/-- What is told of some calls: an order, if there is one. -/
def askO (t o m : Int) (l : List Cl) : Option (List Nat) := if askE t o m l = 0 then srch l l.length 0 (Ms.new t o m) else none
theorem meets_Can {h : PH} {a : Option Addr} {n c : Nat} {l : List Cl} (x : ClsAt h a l) (hl : l.length = n) (hn : n ≤ 1000000) (t o m : Int) :
    Meets Try.prog 25 #[.int .i64 t, .int .i64 o, .int .i64 m, .slice a n c] h fun v h' => v = .tuple #[.bool (askO t o m l).isSome, .int .i64 (askE t o m l)] ∧ h' = h := by
  apply Meets.same
  apply P_check_Can_of
  unfold P_check_Can
  refine (meets_ask x hl hn t o m).mono ?_
  rintro _ h1 ⟨le, p, k, c', ok, rfl, ho⟩
  have : ok = (askO t o m l).isSome := by
    unfold askO
    cases hh : (if askE t o m l = 0 then srch l l.length 0 (Ms.new t o m) else none) with
    | none => rw [hh] at ho; exact ho.2.2.2
    | some ks => rw [hh] at ho; exact ho.1
  subst this
  simp only [oTup_mk, oIx_some, oS_some, oB_some, oI_some, List.getElem?_toArray, List.getElem?_cons_zero, List.getElem?_cons_succ]
  exact ⟨rfl, by trivial, le⟩
theorem meets_Order {h : PH} {a : Option Addr} {n c : Nat} {l : List Cl} (x : ClsAt h a l) (hl : l.length = n) (hn : n ≤ 1000000) (t o m : Int) :
    Meets Try.prog 27 #[.int .i64 t, .int .i64 o, .int .i64 m, .slice a n c] h fun v h' => h.le h' ∧ ∃ p k c' S, v = .tuple #[.slice p k c', .int .i64 (askE t o m l)] ∧ IntsIn h' p k c' (((askO t o m l).getD []).map fun (k : Nat) => (k : Int)) S ∧ ∀ b ∈ S, h b = none := by
  apply P_check_Order_of
  unfold P_check_Order
  refine (meets_ask x hl hn t o m).mono ?_
  rintro _ h1 ⟨le, p, k, c', ok, rfl, ho⟩
  simp only [oTup_mk, oIx_some, oS_some, oB_some, oI_some, List.getElem?_toArray, List.getElem?_cons_zero, List.getElem?_cons_succ]
  refine ⟨rfl, le, p, k, c', ?_⟩
  unfold askO
  cases hh : (if askE t o m l = 0 then srch l l.length 0 (Ms.new t o m) else none) with
  | none =>
    rw [hh] at ho
    obtain ⟨rfl, rfl, rfl, _⟩ := ho
    exact ⟨[], rfl, IntsIn.nil _, by simp⟩
  | some ks =>
    rw [hh] at ho
    obtain ⟨_, S, i, nS⟩ := ho
    exact ⟨S, rfl, i, nS⟩

end Go.Ck

/-
  The walk of CheckEarlier.
-/
set_option linter.unusedSimpArgs false
set_option linter.unusedVariables false
namespace Go.Ck
open Go Go.Sx Go.Md Go.Proofs Go.Proofs.Ytnnedfhpicdacaa

theorem row_lit {h : PH} {b : Nat} {l : List Cl} {O : Array Value} (e : h b = some (.cells O 61 (0, 0))) (ho : O = recArr clL l []) : ClsAt h (some ⟨b, 0, none⟩) l := by
  subst ho
  exact RowIn.recs (n := l.length) (c := l.length) (S := [b]) clL_len ⟨rfl, .inr ⟨b, [], rfl, e, Nat.le_refl _, by simp, rfl⟩⟩
theorem ints_at {h : PH} {p : Option Addr} {n c : Nat} {l : List Int} {S : List Nat} (i : IntsIn h p n c l S) {k : Nat} (hk : k < l.length) : ∃ b, p = some b ∧ h.cell (b.add (k * 1)) = some (.int .i64 l[k]) := by
  obtain ⟨rfl, ⟨rfl, _⟩ | ⟨b, junk, rfl, hb, hc, hj, rfl⟩⟩ := i
  · simp at hk
  · refine ⟨_, rfl, ?_⟩
    rw [add_mk, cellAt hb, Nat.zero_add, Nat.mul_one, intArr_get hk]

def aA : Cl := ⟨⟨1, 0, 0, 0, 0⟩, 0, 9⟩
def aB : Cl := ⟨⟨1, 1, 0, 0, 0⟩, 1, 9⟩
def aX : Cl := ⟨⟨3, 0, 0, 0, 0⟩, 2, 9⟩

theorem meets_alive23 {h : PH} : Meets Try.prog 24 #[] h fun v h' => v = .bool true ∧ h' = h := by
  apply Meets.same
  apply P_law23_alive_of
  unfold P_law23_alive
  have k1 : (askO 2 1 1 [aA, aB]).isSome = false := by kernel_rfl
  have k2 : askE 2 1 1 [aA, aB] = 0 := by kernel_rfl
  have k3 : (askO 2 1 1 [aB, aA, aX]).getD [] = [1, 2, 0] := by kernel_rfl
  have k4 : askE 2 1 1 [aB, aA, aX] = 0 := by kernel_rfl
  refine xBox rfl rfl rfl (by decide) (clL_one aA) fun b1 h1 l1 n1 e1 => ?_
  refine xBox rfl rfl rfl (by decide) (clL_one aB) fun b2 h2 l2 n2 e2 => ?_
  refine xBox rfl rfl rfl (by decide) (clL_one aX) fun b3 h3 l3 n3 e3 => ?_
  have f1 := l3 _ _ (l2 _ _ e1)
  have f2 := l3 _ _ e2
  simp only [xNn_some, add_mk, cell_mk, upd_at, del_at, if_true, if_false, Option.bind_some, List.getElem?_toArray, List.getElem?_cons_succ, List.getElem?_cons_zero, oI_some, oS_some, oM_some, oB_some, oP_some, oT_some, xIdx_some, Nat.zero_add, Nat.add_zero, Nat.mul_one, f1, f2, e3]
  refine xNew_intro fun b17 h4 l4 n4 e4 => ?_
  refine (meets_Can (row_lit (l := [aA, aB]) e4 rfl) rfl (by decide) 2 1 1).look ?_
  rw [k1, k2]
  simp only [oTup_mk, oIx_some, oB_some, oI_some, List.getElem?_toArray, List.getElem?_cons_zero, List.getElem?_cons_succ]
  have g1 := l4 _ _ f1
  have g2 := l4 _ _ f2
  have g3 := l4 _ _ e3
  refine ⟨rfl, ?_⟩
  simp only [xNn_some, add_mk, cell_mk, upd_at, del_at, if_true, if_false, Option.bind_some, List.getElem?_toArray, List.getElem?_cons_succ, List.getElem?_cons_zero, oI_some, oS_some, oM_some, oB_some, oP_some, oT_some, xIdx_some, Nat.zero_add, Nat.add_zero, Nat.mul_one, g1, g2, g3]
  refine xNew_intro fun b25 h5 l5 n5 e5 => ?_
  refine (meets_Order (row_lit (l := [aB, aA, aX]) e5 rfl) rfl (by decide) 2 1 1).mono ?_
  rintro _ h6 ⟨l6, p, k, c', S, rfl, ints, nS⟩
  rw [k3] at ints
  rw [k4]
  have hk : k = 3 := ints.1
  subst hk
  simp only [oTup_mk, oIx_some, oS_some, oB_some, oI_some, List.getElem?_toArray, List.getElem?_cons_zero, List.getElem?_cons_succ]
  refine ⟨rfl, ?_⟩
  refine xSc_and true (fun _ J hJ => hJ) ?_
  refine xSc_and true (fun _ J hJ => hJ) ?_
  refine xSc_and true (fun _ J hJ => hJ) ?_
  refine xSc_and true (fun _ J hJ => ?_) ?_
  · obtain ⟨b, hb, hc⟩ := ints_at ints (k := 0) (by decide)
    refine ⟨b, hb, by decide, by decide, ?_⟩
    have hc' : h6.cell (b.add (Int.toNat 0 * 1)) = some (.int .i64 1) := hc
    simp only [hc', oI_some]
    exact hJ
  refine xSc_and true (fun _ J hJ => ?_) ?_
  · obtain ⟨b, hb, hc⟩ := ints_at ints (k := 1) (by decide)
    refine ⟨b, hb, by decide, by decide, ?_⟩
    have hc' : h6.cell (b.add (Int.toNat 1 * 1)) = some (.int .i64 2) := hc
    simp only [hc', oI_some]
    exact hJ
  refine xSc_and true (fun _ J hJ => ?_) ⟨by trivial, PH.le_trans l1 (PH.le_trans l2 (PH.le_trans l3 (PH.le_trans l4 (PH.le_trans l5 l6))))⟩
  · obtain ⟨b, hb, hc⟩ := ints_at ints (k := 2) (by decide)
    refine ⟨b, hb, by decide, by decide, ?_⟩
    have hc' : h6.cell (b.add (Int.toNat 2 * 1)) = some (.int .i64 0) := hc
    simp only [hc', oI_some]
    exact hJ

/-! ### Who was met -/
theorem findE_append (k : Value) : ∀ (l m : List MapEntry) (i : Nat), findE (l ++ m) k i = (findE l k i).or (findE m k (i + l.length)) := by
  intro l
  induction l with
  | nil => intro m i; simp [findE]
  | cons e l ih =>
    intro m i
    simp only [List.cons_append, findE]
    split
    · simp
    · rw [ih, List.length_cons]
      congr 2
      omega
def MetAt (h : PH) (b : Nat) (ks : List Nat) : Prop := ∃ es cl, h b = some (.map es cl) ∧ (∀ e ∈ es.toList, isKeyI .i64 (MapEntry.key e)) ∧ ∀ k : Nat, mapGet es (.int .i64 (k : Int)) = if k ∈ ks then some (.bool true) else none
theorem MetAt.le {h h' : PH} {b : Nat} {ks : List Nat} (x : MetAt h b ks) (le : h.le h') : MetAt h' b ks := by
  obtain ⟨es, cl, e, hk, hg⟩ := x; exact ⟨es, cl, le _ _ e, hk, hg⟩
theorem law_int : KeyLaw Try.prog 3 (isKeyI .i64) := keyLawInt Try.underlying3
theorem MetAt.look {h : PH} {b : Nat} {ks : List Nat} (x : MetAt h b ks) (k : Nat) {K : Option Value → Prop} (kk : K (if k ∈ ks then some (.bool true) else none)) : xLook Try.prog 3 h (some b) (.int .i64 (k : Int)) K := by
  obtain ⟨es, cl, e, hk, hg⟩ := x
  refine .inl ⟨b, es, cl, _, rfl, e, law_int, ⟨_, rfl⟩, hk, ?_⟩
  rw [hg]; exact kk
theorem MetAt.put {h : PH} {b : Nat} {ks : List Nat} (x : MetAt h b ks) {k : Nat} (nk : k ∉ ks) {K : PH → Prop} (kk : ∀ O, MetAt (h.upd b O) b (ks ++ [k]) → K (h.upd b O)) : xPut Try.prog 3 h (some b) (.int .i64 (k : Int)) (.bool true) K := by
  obtain ⟨es, cl, e, hk, hg⟩ := x
  refine ⟨b, es, cl, _, rfl, e, law_int, ⟨_, rfl⟩, hk, kk _ ?_⟩
  have hn := hg k
  rw [if_neg nk] at hn
  have hf : findE es.toList (.int .i64 (k : Int)) 0 = none := by
    unfold mapGet at hn
    cases hx : findE es.toList (.int .i64 (k : Int)) 0 with
    | none => rfl
    | some r => rw [hx] at hn; cases hn
  have hp : mapPut es cl (.int .i64 (k : Int)) (.bool true) = .map (es.push { key := .int .i64 (k : Int), val := .bool true, born := cl }) (cl + 1) := by unfold mapPut; rw [hf]
  rw [hp]
  refine ⟨_, _, PH.upd_same _ _ _, ?_, ?_⟩
  · intro en he
    rw [Array.toList_push, List.mem_append] at he
    rcases he with he | he
    · exact hk en he
    · simp at he; subst he; exact ⟨_, rfl⟩
  · intro q
    have := hg q
    unfold mapGet at this ⊢
    rw [Array.toList_push, findE_append]
    cases hx : findE es.toList (.int .i64 (q : Int)) 0 with
    | some r =>
      rw [hx] at this
      rw [Option.some_or]
      by_cases hm : q ∈ ks
      · rw [if_pos hm] at this; rw [if_pos (by simp [hm])]; exact this
      · rw [if_neg hm] at this; cases this
    | none =>
      rw [hx] at this
      have hm : q ∉ ks := fun hm => by rw [if_pos hm] at this; cases this
      rw [Option.none_or]
      simp only [findE, sameBits_int]
      by_cases e : q = k
      · subst e; simp
      · have : ((q : Int) == (k : Int)) = false := by simp; omega
        simp [this, hm, e]

theorem ser_all : ∀ (P : List Cl) (s : Ms), (∀ j, j < P.length → ((P.take j).foldl (fun s c => s.next c.event) s).code (cl P j).event = 0) → ser s P = (P.length, true) := by
  intro P
  induction P with
  | nil => intro s _; rfl
  | cons c P ih =>
    intro s h
    have h0 := h 0 (by simp)
    have : s.code c.event = 0 := h0
    rw [ser_cons, if_pos this, ih (s.next c.event) fun j hj => h (j + 1) (by simpa using hj)]
    simp

set_option maxHeartbeats 4000000 in
theorem meets_CheckEarlier {h : PH} {a : Option Addr} {n c : Nat} {l : List Cl} (x : ClsAt h a l) (hl : l.length = n) :
    Meets Try.prog 7 #[.slice a n c] h fun v h' => v = .bool true ∧ h' = h := by
  apply Meets.same
  apply P_law23_CheckEarlier_of
  unfold P_law23_CheckEarlier
  refine ⟨fun _ => ?_, fun h8 => ?_⟩
  · refine meets_alive23.look ?_
    simp only [oB_some]
    exact ⟨by trivial, PH.le_refl _⟩
  have h8 : n ≤ 8 := by have := of_decide_eq_false h8; omega
  refine (meets_theirs23 x hl (by omega)).mono ?_
  rintro _ h1 ⟨p1, c1, S1, rfl, row, l1, nS1⟩
  simp only [oS_some]
  have xc := row.recs clL_len
  refine (meets_Order xc hl (by omega) 3 2 3).mono ?_
  rintro _ h2 ⟨l2, p2, n2, c2, S2, rfl, ints, nS2⟩
  simp only [oTup_mk, oIx_some, oS_some, oB_some, oI_some, List.getElem?_toArray, List.getElem?_cons_zero, List.getElem?_cons_succ]
  refine ⟨rfl, ?_⟩
  have le2 := PH.le_trans l1 l2
  refine xSc_or (((n2 : Nat) : Int) != ((n : Nat) : Int)) (fun _ J hJ => hJ) ⟨fun _ => ?_, fun hx => ?_⟩
  · refine meets_alive23.look ?_
    simp only [oB_some]
    exact ⟨by trivial, le2⟩
  simp only [Bool.or_eq_false_iff, bne_eq_false_iff_eq] at hx
  obtain ⟨e0, en⟩ := hx
  have en : n2 = n := by omega
  subst en
  -- the order
  have hord : askO 3 2 3 l = srch l l.length 0 (Ms.new 3 2 3) := by unfold askO; rw [if_pos e0]
  have hcase := askE_cases 3 2 3 l
  have may : l.all Cl.may = true := by
    rcases hcase with h | h | h | h
    · rw [h.2] at e0; cases e0
    · rw [h.2.2] at e0; cases e0
    · exact h.2.1
    · exact h.2.1
  rw [hord] at ints
  have lenks := ints.1
  simp only [List.length_map] at lenks
  cases hks : srch l l.length 0 (Ms.new 3 2 3) with
  | none =>
    rw [hks] at ints lenks
    have n0 : n2 = 0 := by simpa using lenks
    subst n0
    refine xNew_intro fun b37 h3 l3 n37 e37 => ?_
    refine xBlk_split (fun h' => h3.le h') ?_ fun K hK => ?_
    · intro h4 l4
      refine meets_alive23.look ?_
      simp only [oB_some]
      exact ⟨by trivial, PH.le_trans le2 (PH.le_trans l3 l4)⟩
    refine xLoop4 (fun _ _ _ (i : Int) h' => i = 0 ∧ h' = h3) (fun _ _ _ _ _ => 0) ?_ ⟨rfl, rfl⟩
    rintro J q1 q2 q3 i _ ⟨rfl, rfl⟩ hJ
    exact ⟨fun hx => (by simp at hx), fun _ => hK _ (PH.le_refl _)⟩
  | some ks =>
  rw [hks] at ints lenks
  simp only [Option.getD_some] at ints lenks
  have V := srch_valid l.length 0 (Ms.new 3 2 3) ks (left_start l) hks
  have nw := fun j (hj : j < ks.length) => valid_new V hj
  clear hks hord
  refine xNew_intro fun b37 h3 l3 n37 e37 => ?_
  have met0 : MetAt h3 b37 [] := ⟨#[], 0, e37, by simp, fun k => by simp [mapGet, findE]⟩
  have le3 := PH.le_trans le2 l3
  have xc3 := (xc.le l2)
  have inth3 := ints
  refine xBlk_split (fun h' => h2.le h') ?_ fun K hK => ?_
  · intro h4 l4
    refine meets_alive23.look ?_
    simp only [oB_some]
    exact ⟨by trivial, PH.le_trans le2 l4⟩
  refine xLoop4 (fun p m c' (i : Int) h' => 0 ≤ i ∧ i ≤ n2 ∧ h2.le h' ∧ MetAt h' b37 (ks.take i.toNat) ∧ ∃ S, RowIn clL 7 61 h' p m c' ((ks.take i.toNat).map (cl l)) S ∧ ∀ b ∈ S, h2 b = none ∧ b ≠ b37) (fun _ _ _ (i : Int) _ => ((n2 : Int) - i).toNat) ?_
    ⟨by omega, by omega, l3, by simpa using met0, [], by simpa using RowIn.nil _ _, by simp⟩
  rintro J p m c' i h4 ⟨i0, i1, l4, met, S, rw, nS⟩ hJ
  refine ⟨fun hx => ?_, fun hx => hK _ l4⟩
  have hx := of_decide_eq_true hx
  have hw : IntKind.wrap .i64 (i + 1) = i + 1 := wrap64_id (by omega) (by omega)
  have hi : i.toNat < ks.length := by omega
  have step : ∀ p' m' c' h', h2.le h' → MetAt h' b37 (ks.take (i.toNat + 1)) → (∃ S, RowIn clL 7 61 h' p' m' c' ((ks.take (i.toNat + 1)).map (cl l)) S ∧ ∀ b ∈ S, h2 b = none ∧ b ≠ b37) → J p' m' c' (i + 1) h' := fun p' m' c' h' q1 q2 q3 => hJ _ _ _ _ _ ⟨by omega, by omega, q1, by rw [show (i + 1).toNat = i.toNat + 1 from by omega]; exact q2, by rw [show (i + 1).toNat = i.toNat + 1 from by omega]; exact q3⟩ (by omega)
  obtain ⟨w1, w2, w3⟩ := nw i.toNat hi
  have tk : ks.take (i.toNat + 1) = ks.take i.toNat ++ [ks[i.toNat]] := List.take_succ_eq_append_getElem hi
  have pser := fun j hj => prefix_serial V (i.toNat + 1) j (by omega) hj
  have pval := prefix_valid V (i.toNat + 1) (by omega)
  clear hJ hK
  obtain ⟨b, hb, hcell⟩ := ints_at ints (k := i.toNat) (by simpa using hi)
  have hcell4 := PH.cell_le l4 hcell
  simp only [List.getElem_map] at hcell4
  generalize hk : ks[i.toNat] = k at hcell4 w1 w2 w3 tk
  refine xBlk_split3 (fun p' m' c' h' => h2.le h' ∧ MetAt h' b37 (ks.take (i.toNat + 1)) ∧ ∃ S, RowIn clL 7 61 h' p' m' c' ((ks.take (i.toNat + 1)).map (cl l)) S ∧ ∀ b ∈ S, h2 b = none ∧ b ≠ b37) (fun p' m' c' h' ⟨q1, q2, q3⟩ => by rw [hw]; exact step p' m' c' h' q1 q2 q3) fun K hK => ?_
  clear step
  refine ⟨b, hb, i0, hx, ?_⟩
  simp only [hcell4, oI_some]
  have hkn : (k : Int) < n2 := by omega
  have d1 : decide ((k : Int) < 0) = false := by simp
  have d2 : decide ((k : Int) ≥ (n2 : Int)) = false := by simp; omega
  rw [d1, d2]
  refine xSc_or false (fun _ J hJ => hJ) ?_
  refine xSc_or false (fun _ J hJ => ?_) ⟨fun hx => (by cases hx), fun _ => ?_⟩
  · refine met.look k ?_
    rw [if_neg w2]
    simp only [Option.getD_none, oB_some]
    exact hJ
  -- nobody who is left was over ahead
  refine xBlk_split (fun h' => h4.le h') ?_ fun K2 hK2 => ?_
  rotate_left
  · refine xLoop1 (fun (j : Int) h' => 0 ≤ j ∧ j ≤ n2 ∧ h4.le h') (fun (j : Int) _ => ((n2 : Int) - j).toNat) ?_ ⟨by omega, by omega, PH.le_refl _⟩
    rintro J2 j h5 ⟨j0, j1, l5⟩ hJ2
    refine ⟨fun hy => ?_, fun hy => hK2 _ l5⟩
    have hy := of_decide_eq_true hy
    have hw2 : IntKind.wrap .i64 (j + 1) = j + 1 := wrap64_id (by omega) (by omega)
    have hj : j.toNat < l.length := by omega
    have step : ∀ h', h4.le h' → J2 (j + 1) h' := fun h' l' => hJ2 _ _ ⟨by omega, by omega, l'⟩ (by omega)
    have hjc : j = ((j.toNat : Nat) : Int) := by omega
    generalize hjn : j.toNat = jn at hj hjc
    clear hJ2 hK2
    have le5 := PH.le_trans l4 l5
    obtain ⟨b', hb', c0, c1', c2', c3, c4, c5, c6⟩ := cls_at (xc3.le le5) (List.getElem?_eq_getElem hj)
    have hcl : cl l jn = l[jn] := by simp [cl, List.getD_eq_getElem?_getD, hj]
    rw [← hcl] at c0 c1' c2' c3 c4 c5 c6
    refine xBlk_split (fun h' => h4.le h') (fun h' l' => by rw [hw2]; exact step h' l') fun K3 hK3 => ?_
    refine ⟨b', hb', j0, hy, ?_⟩
    simp only [hjn, c0, c1', c2', c3, c4, c5, c6, oI_some]
    refine xBox rfl rfl rfl (by decide) (clL_one (cl l jn)) fun b11 h6 l6 n11 e11 => ?_
    have e11' : h6 b11 = some (.cells (clL (cl l jn)).toArray 61 (0, 0)) := e11
    have le6 := PH.le_trans l5 l6
    refine xDraw_self ?_
    rw [hjc]
    refine (met.le le6).look jn ?_
    have hget : Option.getD (if jn ∈ ks.take i.toNat then some (Value.bool true) else none) (.bool false) = .bool (decide (jn ∈ ks.take i.toNat)) := by
      by_cases hm : jn ∈ ks.take i.toNat <;> simp [hm]
    rw [hget]
    simp only [oB_some]
    have hno : (!decide (jn ∈ ks.take i.toNat) && decide ((cl l jn).to < (cl l k).fr)) = false := by
      by_cases hm : jn ∈ ks.take i.toNat
      · simp [hm]
      · have := w3 jn hj hm
        simp [hm]; omega
    refine xSc_and (((jn : Nat) : Int) != (k : Int)) (fun _ J hJ => hJ) ?_
    refine xSc_and (decide ((cl l jn).to < (cl l k).fr)) (fun _ J hJ => ?_) ?_
    · obtain ⟨b2, hb2, g0, g1, g2, g3, g4, g5, g6⟩ := cls_at (xc3.le (PH.le_trans le5 l6)) (List.getElem?_eq_getElem w1)
      have hcl2 : cl l k = l[k] := by simp [cl, List.getD_eq_getElem?_getD, w1]
      rw [← hcl2] at g0 g1 g2 g3 g4 g5 g6
      simp only [xNn_some, add_mk, cell_mk, upd_at, del_at, if_true, if_false, Option.bind_some, List.getElem?_toArray, List.getElem?_cons_succ, List.getElem?_cons_zero, oI_some, oS_some, oM_some, oB_some, oP_some, oT_some, xIdx_some, Nat.zero_add, Nat.add_zero, Nat.mul_one, e11', clL]
      refine ⟨b2, hb2, by omega, hkn, ?_⟩
      simp only [Int.toNat_natCast, g5, oI_some]
      exact hJ
    refine ⟨fun hx => ?_, fun _ => hK3 _ le6⟩
    exfalso
    revert hno hx
    cases decide (jn ∈ ks.take i.toNat) <;> cases decide ((cl l jn).to < (cl l k).fr) <;> simp
  intro h5 l5
  have le5 := PH.le_trans l4 l5
  have met5 := met.le l5
  have rw5 := rw.le l5
  refine met5.put w2 fun O met6 => ?_
  have n37h2 : h2 b37 = none := n37
  have le6 : h2.le (h5.upd b37 O) := upd_le_upd n37h2 le5
  have rw6 : RowIn clL 7 61 (h5.upd b37 O) p m c' ((ks.take i.toNat).map (cl l)) S := rw5.of fun b hb => PH.upd_ne _ _ (nS b hb).2
  have e37' : ∃ O', (h5.upd b37 O) b37 = some O' := ⟨O, PH.upd_same _ _ _⟩
  rw [← tk] at met6
  generalize h5.upd b37 O = h6 at met6 le6 rw6 e37' ⊢
  obtain ⟨b2, hb2, g0, g1, g2, g3, g4, g5, g6⟩ := cls_at (xc3.le le6) (List.getElem?_eq_getElem w1)
  have hcl2 : cl l k = l[k] := by simp [cl, List.getD_eq_getElem?_getD, w1]
  rw [← hcl2] at g0 g1 g2 g3 g4 g5 g6
  refine ⟨b2, hb2, by omega, hkn, ?_⟩
  simp only [Int.toNat_natCast, g0, g1, g2, g3, g4, g5, g6, oI_some]
  refine xNew_intro fun b91 h7 l7 n91 e91 => ?_
  refine (rw6.le l7).app (x := cl l k) clL_len (clL_one _) e91 (by simp [List.length_take]; omega) ?_
  intro p' m' c'' h8 S' rw8 x8 nS8
  have le8 : h2.le h8 := fun y O hy => x8 y O (l7 y O (le6 y O hy)) fun hm => by rw [(nS y hm).1] at hy; cases hy
  have S37 : b37 ∉ S := fun hm => (nS _ hm).2 rfl
  have met8 : MetAt h8 b37 (ks.take (i.toNat + 1)) := by
    obtain ⟨es, cl', e, hk1, hg⟩ := met6
    exact ⟨es, cl', x8 _ _ (l7 _ _ e) S37, hk1, hg⟩
  have prow : RowIn clL 7 61 h8 p' m' c'' ((ks.take (i.toNat + 1)).map (cl l)) S' := by
    rw [tk, List.map_append]; exact rw8
  have nS' : ∀ b ∈ S', h2 b = none ∧ b ≠ b37 := fun b hb => by
    rcases nS8 b hb with h' | h'
    · exact nS b h'
    · refine ⟨none_of le6 (none_of l7 h'), fun e => ?_⟩
      subst e
      obtain ⟨O', hO'⟩ := e37'
      have := l7 _ _ hO'
      rw [h'] at this; cases this
  generalize hP : (ks.take (i.toNat + 1)).map (cl l) = P at prow pser pval
  have plen : P.length = i.toNat + 1 := by rw [← hP]; simp; omega
  have hm' : m' = i.toNat + 1 := prow.1.trans plen
  have pcls := prow.recs clL_len
  have s1 : ser (Ms.new 3 2 3) P = (i.toNat + 1, true) := by
    have := ser_all P (Ms.new 3 2 3) fun j hj => pser j (by omega)
    rw [this, plen]
  refine (meets_Serial pcls (plen.trans hm'.symm) (by omega) 3 2 3 (by decide) (by decide) (by decide)).look ?_
  rw [s1]
  simp only [oTup_mk, oIx_some, oS_some, oB_some, oI_some, List.getElem?_toArray, List.getElem?_cons_zero, List.getElem?_cons_succ]
  refine ⟨rfl, ?_⟩
  refine xSc_or false (fun _ J hJ => ?_) ⟨fun hx => (by cases hx), fun _ => ?_⟩
  · rw [hm'] at *
    simpa using hJ
  have pmay : P.all Cl.may = true := by
    rw [List.all_eq_true] at may ⊢
    intro y hy
    rw [← hP] at hy
    obtain ⟨q, hq, rfl⟩ := List.mem_map.1 hy
    obtain ⟨t, ht, rfl⟩ := List.getElem_of_mem (List.mem_of_mem_take hq)
    have hq1 := (nw t ht).1
    have : cl l ks[t] = l[ks[t]] := by simp [cl, List.getD_eq_getElem?_getD, hq1]
    rw [this]
    exact may _ (List.getElem_mem hq1)
  have pe0 : askE 3 2 3 P = 0 := by
    rcases askE_cases 3 2 3 P with h | h | h | h
    · exact absurd h.1 (by decide)
    · rw [pmay] at h; cases h.2.1
    · omega
    · exact h.2.2.2
  have psome : (askO 3 2 3 P).isSome = true := by
    unfold askO
    rw [if_pos pe0]
    obtain ⟨ks', hv⟩ := pval
    cases hh : srch P P.length 0 (Ms.new 3 2 3) with
    | none => exact absurd hh (srch_some P.length 0 _ ks' (left_start P) hv)
    | some r => rfl
  refine (meets_Can pcls (plen.trans hm'.symm) (by omega) 3 2 3).look ?_
  rw [psome, pe0]
  simp only [oTup_mk, oIx_some, oS_some, oB_some, oI_some, List.getElem?_toArray, List.getElem?_cons_zero, List.getElem?_cons_succ]
  refine ⟨rfl, ?_⟩
  refine xSc_or false (fun _ J hJ => hJ) ⟨fun hx => (by cases hx), fun _ => ?_⟩
  rw [← hP] at prow
  exact hK _ _ _ _ ⟨le8, met8, S', prow, nS'⟩

end Go.Ck

/-
  Calls as they stand: the document's way; the walk of CheckSerial.
-/
set_option linter.unusedSimpArgs false
set_option linter.unusedVariables false
namespace Go.Ck
open Go Go.Sx Go.Md Go.Rf Go.Proofs Go.Proofs.Ytnnedfhpicdacaa

/-! ### Plain -/
def serT (t o m : Int) (l : List Cl) : Nat × Bool := if newOk t o m = true then ser (Ms.new t o m) l else (0, false)
theorem ser_le : ∀ (l : List Cl) (s : Ms), (ser s l).1 ≤ l.length := by
  intro l
  induction l with
  | nil => intro s; simp [ser]
  | cons c l ih =>
    intro s
    rw [ser_cons]
    split
    · have := ih (s.next c.event); simp; omega
    · simp
theorem serT_le (t o m : Int) (l : List Cl) : (serT t o m l).1 ≤ l.length := by
  unfold serT; split
  · exact ser_le _ _
  · simp
theorem ser_codes : ∀ (l : List Cl) (s : Ms) (j : Nat), j < (ser s l).1 → (((l.map Cl.event).take j).foldl Ms.next s).code (cl l j).event = 0 := by
  intro l
  induction l with
  | nil => intro s j h; simp [ser] at h
  | cons c l ih =>
    intro s j h
    rw [ser_cons] at h
    split at h
    · rename_i hc
      cases j with
      | zero => exact hc
      | succ j => exact ih (s.next c.event) j (by simpa using h)
    · simp at h
theorem valid_id {P : List Cl} {s : Ms} (hf : ∀ i j, i < P.length → j < P.length → (cl P i).to < (cl P j).fr → i < j) (hc : ∀ j, j < P.length → (((P.map Cl.event).take j).foldl Ms.next s).code (cl P j).event = 0) : ∃ ks, Valid P 0 s ks := by
  have key : ∀ q i, q + i = P.length → Valid P (2 ^ i - 1) (((P.map Cl.event).take i).foldl Ms.next s) (List.range' i q) := by
    intro q
    induction q with
    | zero =>
      intro i hi
      have : i = P.length := by omega
      subst this
      exact left_full
    | succ q ih =>
      intro i hi
      have hil : i < P.length := by omega
      refine ⟨by omega, free_mk (by simp [Nat.testBit_two_pow_sub_one]) ?_, hc i hil, ?_⟩
      · intro i' hi' hlt
        have := hf i' i hi' hil hlt
        rw [Nat.testBit_two_pow_sub_one]; simp [this]
      · have e1 : 2 ^ i - 1 ||| 2 ^ i = 2 ^ (i + 1) - 1 := by
          apply Nat.eq_of_testBit_eq
          intro x
          rw [testBit_or_pow, Nat.testBit_two_pow_sub_one, Nat.testBit_two_pow_sub_one]
          by_cases hx : x < i
          · simp [hx]; omega
          · by_cases hx2 : i = x
            · simp [hx2]
            · simp [hx, hx2]; omega
        have hcl : (cl P i).event = (P.map Cl.event)[i]'(by simpa using hil) := by simp [cl, List.getD_eq_getElem?_getD, hil]
        have e2 : (((P.map Cl.event).take i).foldl Ms.next s).next (cl P i).event = ((P.map Cl.event).take (i + 1)).foldl Ms.next s := by
          rw [List.take_succ_eq_append_getElem (by simpa using hil), List.foldl_append, hcl]; rfl
        rw [e1, e2]
        exact ih (i + 1) (by omega)
  exact ⟨_, key P.length 0 (by omega)⟩

/-- A call at times of its own. -/
def tmc (j : Nat) (c : Cl) : Cl := { c with fr := 2 * (j : Int), to := 2 * (j : Int) + 1 }
/-- Calls that were taken as they stand, at times that do not overlap, can have been. -/
theorem times_can {t o m : Int} {l L l' : List Cl} (h12 : l.length ≤ 12) (hL : L = l.take (serT t o m l).1) (len : l'.length = L.length) (hl : ∀ (j : Nat) c, L[j]? = some c → l'[j]? = some (tmc j c)) (may : ∀ (j : Nat) c, L[j]? = some c → (tmc j c).may = true) (ok : newOk t o m = true) :
    askE t o m l' = 0 ∧ (askO t o m l').isSome = true := by
  have kle := serT_le t o m l
  have Ll : L.length = (serT t o m l).1 := by rw [hL, List.length_take]; omega
  have hall : l'.all Cl.may = true := by
    rw [List.all_eq_true]
    intro c hc
    obtain ⟨j, hj, rfl⟩ := List.getElem_of_mem hc
    have hjL : j < L.length := by omega
    have h1 := hl j _ (List.getElem?_eq_getElem hjL)
    rw [List.getElem?_eq_getElem hj] at h1
    simp only [Option.some.injEq] at h1
    rw [h1]; exact may j _ (List.getElem?_eq_getElem hjL)
  have e0 : askE t o m l' = 0 := by
    rcases askE_cases t o m l' with h | h | h | h
    · rw [ok] at h; cases h.1
    · rw [hall] at h; cases h.2.1
    · omega
    · exact h.2.2.2
  refine ⟨e0, ?_⟩
  unfold askO
  rw [if_pos e0]
  have gl : ∀ j, j < l'.length → ∃ c, L[j]? = some c ∧ cl l' j = tmc j c := by
    intro j hj
    have hjL : j < L.length := by omega
    refine ⟨_, List.getElem?_eq_getElem hjL, ?_⟩
    unfold cl
    rw [List.getD_eq_getElem?_getD, hl j _ (List.getElem?_eq_getElem hjL)]; rfl
  have hmap : l'.map Cl.event = (l.map Cl.event).take (serT t o m l).1 := by
    apply List.ext_getElem?
    intro j
    rw [← List.map_take, ← hL, List.getElem?_map, List.getElem?_map]
    by_cases hj : j < l'.length
    · obtain ⟨c, h1, h2⟩ := gl j hj
      rw [h1, hl j c h1]; rfl
    · rw [List.getElem?_eq_none (by omega), List.getElem?_eq_none (by omega)]
  have sT : serT t o m l = ser (Ms.new t o m) l := by unfold serT; rw [if_pos ok]
  have V := valid_id (P := l') (s := Ms.new t o m) (fun i j hi hj hlt => by
      obtain ⟨c, _, e1⟩ := gl i hi
      obtain ⟨c', _, e2⟩ := gl j hj
      rw [e1, e2] at hlt
      simp only [tmc] at hlt
      omega) (fun j hj => by
      have hjk : j < (ser (Ms.new t o m) l).1 := by rw [← sT, ← Ll, ← len]; exact hj
      have := ser_codes l (Ms.new t o m) j hjk
      obtain ⟨c, h1, h2⟩ := gl j hj
      rw [hmap, List.take_take, Nat.min_eq_left (by rw [sT]; omega), h2]
      have : cl l j = c := by
        rw [hL, List.getElem?_take] at h1
        split at h1
        · unfold cl; rw [List.getD_eq_getElem?_getD, h1]; rfl
        · cases h1
      rw [show (tmc j c).event = c.event from rfl, ← this]
      assumption)
  obtain ⟨ks, hv⟩ := V
  cases hh : srch l' l'.length 0 (Ms.new t o m) with
  | none => exact absurd hh (srch_some l'.length 0 _ ks (left_start l') hv)
  | some r => rfl

/-! ### The document's -/
theorem used14 {r : Rm × Int} (w : r.1.Wf) {K : Array Value → Int → Prop} (k : K (rmA r.1) r.2) :
    oTup (ret14 r) 2 fun cs => oIx cs[0]? fun w0 => oAgg w0 227 fun c0 => oIx cs[1]? fun w1 => oI .i64 (some w1) fun x => K c0 x := by
  unfold ret14
  simp only [oTup_mk, oIx_some, oAgg_mk, oI_some, List.getElem?_toArray, List.getElem?_cons_zero, List.getElem?_cons_succ]
  exact ⟨rfl, rmA_size w, k⟩
theorem wf_apply {R : Rm} {s : Ms} (S : Sim R s) (e : Ev) : (R.apply e).1.Wf := (sim_apply S e).2.wf
theorem sim_rng {R : Rm} {s : Ms} (S : Sim R s) : R.n ≤ 8 ∧ R.m ≤ 8 := by
  have := S.n; have := S.m; have := S.ok.nf; have := S.ok.nm; omega

theorem meets_rSerial {h : PH} {a : Option Addr} {n c : Nat} {l : List Cl} (x : ClsAt h a l) (hl : l.length = n) (hn : n ≤ 1000000) (t o m : Int) :
    Meets Try.prog 32 #[.int .i64 t, .int .i64 o, .int .i64 m, .slice a n c] h fun v h' => v = .tuple #[.int .i64 (serT t o m l).1, .bool (serT t o m l).2] ∧ h' = h := by
  apply Meets.same
  apply P_ref23_Serial_of
  unfold P_ref23_Serial
  refine (meets_new' t o m).look ?_
  cases ok : newOk t o m with
  | false =>
    have w0 := wf_new 0 0 0
    rw [if_neg (by simp)]
    refine used14 (r := (Rm.new 0 0 0, 1)) w0 ?_
    simp only [oAgg_mk, oI_some]
    refine ⟨rmA_size w0, ?_⟩
    refine xNew_intro fun b h1 l1 nb e1 => ?_
    refine xSt_all e1 zero_size (rmA_size w0) (by decide) (one_rm _) ?_
    refine ⟨fun _ => ⟨?_, upd_le_upd nb l1⟩, fun hx => (by cases hx)⟩
    unfold serT; rw [ok]; rfl
  | true =>
    rw [if_pos rfl]
    have S0 := sim_new ok
    refine used14 (r := (Rm.new t o m, 0)) S0.wf ?_
    simp only [oAgg_mk, oI_some]
    refine ⟨rmA_size S0.wf, ?_⟩
    refine xNew_intro fun b h1 l1 nb e1 => ?_
    refine xSt_all e1 zero_size (rmA_size S0.wf) (by decide) (one_rm _) ?_
    have M0 : Mx (Rm.new t o m) (h1.upd b (.cells (rmA (Rm.new t o m)) 77 (0, 0))) b := ⟨PH.upd_same _ _ _, S0.wf⟩
    have l2 : h.le (h1.upd b (.cells (rmA (Rm.new t o m)) 77 (0, 0))) := upd_le_upd nb l1
    generalize h1.upd b (.cells (rmA (Rm.new t o m)) 77 (0, 0)) = h2 at M0 l2
    clear l1 e1
    refine ⟨fun hx => (by cases hx), fun _ => ?_⟩
    have sT : serT t o m l = ser (Ms.new t o m) l := by unfold serT; rw [if_pos ok]
    rw [sT]
    generalize Ms.new t o m = s0 at S0
    generalize Rm.new t o m = R0 at S0 M0
    refine xBlk_split (fun h' => ser s0 l = (n, true) ∧ h.le h') ?_ fun K hK => ?_
    · rintro h' ⟨e, le⟩
      rw [e]; exact ⟨rfl, le⟩
    refine xLoop1 (fun (i : Int) h' => 0 ≤ i ∧ i ≤ n ∧ ∃ (R : Rm) (s : Ms), Sim R s ∧ Mx R h' b ∧ h.le h' ∧ ser s0 l = (i.toNat + (ser s (l.drop i.toNat)).1, (ser s (l.drop i.toNat)).2)) (fun (i : Int) _ => ((n : Int) - i).toNat) ?_ ⟨by omega, by omega, R0, s0, S0, M0, l2, by simp⟩
    clear M0 l2
    rintro J i h3 ⟨i0, i1, R, s, S, M, le, hs⟩ hJ
    refine ⟨fun hx => ?_, fun hx => ?_⟩
    · have hx := of_decide_eq_true hx
      have hw : IntKind.wrap .i64 (i + 1) = i + 1 := wrap64_id (by omega) (by omega)
      have hi : i.toNat < l.length := by omega
      have hd : l.drop i.toNat = l[i.toNat] :: l.drop (i.toNat + 1) := List.drop_eq_getElem_cons hi
      rw [hd] at hs
      obtain ⟨ba, rfl, c0, c1, c2, c3, c4, c5, c6⟩ := cls_at (x.le le) (List.getElem?_eq_getElem hi)
      generalize l[i.toNat] = e at c0 c1 c2 c3 c4 c5 c6 hs
      have step : ∀ h' (R' : Rm) (s' : Ms), Sim R' s' → Mx R' h' b → h.le h' → ser s0 l = (i.toNat + 1 + (ser s' (l.drop (i.toNat + 1))).1, (ser s' (l.drop (i.toNat + 1))).2) → J (i + 1) h' := fun h' R' s' k1 k2 k3 k4 => hJ _ _ ⟨by omega, by omega, R', s', k1, k2, k3, by rw [show (i + 1).toNat = i.toNat + 1 from by omega]; exact k4⟩ (by omega)
      clear hJ hK
      refine xBlk_split (fun h' => ∃ (R' : Rm) (s' : Ms), Sim R' s' ∧ Mx R' h' b ∧ h.le h' ∧ ser s0 l = (i.toNat + 1 + (ser s' (l.drop (i.toNat + 1))).1, (ser s' (l.drop (i.toNat + 1))).2)) (fun h' ⟨R', s', k1, k2, k3, k4⟩ => by rw [hw]; exact step h' R' s' k1 k2 k3 k4) fun K hK => ?_
      clear step
      obtain ⟨rn, rm⟩ := sim_rng S
      obtain ⟨ac, aS⟩ := sim_apply S e.event
      have tail : ∀ (b13 : Nat) (h9 : PH), h3.le h9 → h9 b13 = some (.cells (rmA (R.apply e.event).1) 77 (0, 0)) → xIte ((R.apply e.event).2 != 0) (fun J => (Value.tuple #[.int .i64 i, .bool false] = .tuple #[.int .i64 (ser s0 l).1, .bool (ser s0 l).2] ∧ h.le h9)) (fun J => J h9) (fun h10 => oBig h10 ⟨b13, 0, none⟩ 227 fun x => xSt 227 h10 ⟨b, 0, none⟩ x.toList fun h11 => K h11) := by
        intro b13 h9 l9 e13
        rw [ser_cons] at hs
        refine ⟨fun hc => ?_, fun hc => ?_⟩
        · have hc : s.code e.event ≠ 0 := by rw [← ac]; simpa using hc
          rw [if_neg hc] at hs
          have : ((i.toNat : Nat) : Int) = i := by omega
          rw [hs]
          exact ⟨by simp [this], PH.le_trans le l9⟩
        · have hc : s.code e.event = 0 := by rw [← ac]; simpa using hc
          rw [if_pos hc] at hs
          simp only [oBig_eq e13 (rmA_size aS.wf)]
          have M9 := M.le l9
          refine xSt_all M9.m (rmA_size M9.w) (rmA_size aS.wf) (by decide) (one_rm _) ?_
          refine hK _ ⟨_, _, aS, ⟨PH.upd_same _ _ _, aS.wf⟩, upd_le_upd nb (PH.le_trans le l9), ?_⟩
          rw [hs]; simp only [Prod.mk.injEq, and_true]; omega
      refine xDraw_le ?_
      simp only [M.all]
      refine ⟨ba, rfl, i0, hx, ?_⟩
      have c0' := c0
      simp only [add_zero'] at c0'
      simp only [add_zero', c0', c1, c2, c3, c4, oI_some]
      refine ⟨?_, ?_⟩
      · refine (meets_apply' S.wf rn rm e.event).look ?_
        refine used14 (wf_apply S e.event) ?_
        try simp only [oAgg_mk, oI_some]
        refine ⟨PH.le_refl _, rmA_size aS.wf, ?_⟩
        intro b13 n13
        refine ⟨PH.le_upd n13, ?_⟩
        refine xSt_all (PH.upd_same _ _ _) zero_size (rmA_size aS.wf) (by decide) (one_rm _) ?_
        have l9 := upd_le_upd (O := .cells (rmA (R.apply e.event).1) 77 (0, 0)) n13 (PH.le_upd (O := .cells (zeroC Try.prog 77) 77 (0, 0)) n13)
        exact ⟨l9, tail b13 _ l9 (PH.upd_same _ _ _)⟩
      · intro b13 n13
        refine ⟨PH.le_upd n13, ?_⟩
        refine (meets_apply' S.wf rn rm e.event).look ?_
        refine used14 (wf_apply S e.event) ?_
        try simp only [oAgg_mk, oI_some]
        refine ⟨PH.le_upd n13, rmA_size aS.wf, ?_⟩
        refine xSt_all (PH.upd_same _ _ _) zero_size (rmA_size aS.wf) (by decide) (one_rm _) ?_
        have l9 := upd_le_upd (O := .cells (rmA (R.apply e.event).1) 77 (0, 0)) n13 (PH.le_upd (O := .cells (zeroC Try.prog 77) 77 (0, 0)) n13)
        exact ⟨l9, tail b13 _ l9 (PH.upd_same _ _ _)⟩
    · have hx := of_decide_eq_false hx
      have : l.drop i.toNat = [] := List.drop_eq_nil_of_le (by omega)
      rw [this] at hs
      refine hK _ ⟨?_, le⟩
      rw [hs]
      simp only [ser, Prod.mk.injEq, and_true]
      omega

theorem meets_SerialT {h : PH} {a : Option Addr} {n c : Nat} {l : List Cl} (x : ClsAt h a l) (hl : l.length = n) (hn : n ≤ 1000000) (t o m : Int) :
    Meets Try.prog 31 #[.int .i64 t, .int .i64 o, .int .i64 m, .slice a n c] h fun v h' => v = .tuple #[.int .i64 (serT t o m l).1, .bool (serT t o m l).2] ∧ h' = h := by
  unfold serT
  cases ok : newOk t o m with
  | false => rw [if_neg (by simp)]; exact meets_Serial_no t o m ok
  | true =>
    rw [if_pos rfl]
    obtain ⟨ht, ho⟩ := newOk_rng ok
    exact meets_Serial x hl hn t o m ok ho ht

end Go.Ck

/-
  Orders of calls, the document's way.
-/
set_option linter.unusedSimpArgs false
set_option linter.unusedVariables false
namespace Go.Ck
open Go Go.Sx Go.Md Go.Rf Go.Proofs Go.Proofs.Ytnnedfhpicdacaa

theorem meets_rMay {h : PH} (c : Cl) : Meets Try.prog 30 #[clV c] h fun v h' => v = .bool c.may ∧ h' = h := by
  apply Meets.same
  apply P_ref23_May_of
  unfold P_ref23_May
  refine xNew_intro fun b h1 l nb eb => ?_
  simp only [xNn_some, add_mk, cell_mk, upd_at, del_at, if_true, if_false, Option.bind_some, List.getElem?_toArray, List.getElem?_cons_succ, List.getElem?_cons_zero, oI_some, oS_some, oM_some, oB_some, oP_some, oT_some, xIdx_some, Nat.zero_add, Nat.add_zero, Nat.mul_one, eb, xBlk]
  refine ⟨fun hx => ?_, fun hx => ?_⟩
  · exact ⟨by unfold Cl.may; rw [if_pos hx], l⟩
  have hx' : ¬decide (c.fr ≥ c.to) = true := by rw [hx]; simp
  simp only [xNn_some, add_mk, cell_mk, upd_at, del_at, if_true, if_false, Option.bind_some, List.getElem?_toArray, List.getElem?_cons_succ, List.getElem?_cons_zero, oI_some, oS_some, oM_some, oB_some, oP_some, oT_some, xIdx_some, Nat.zero_add, Nat.add_zero, Nat.mul_one, eb]
  have six : ∀ K : Bool → PH → Prop, K (c.event.kind == 1 || (c.event.kind == 2 || (c.event.kind == 3 || (c.event.kind == 9 || (c.event.kind == 11 || c.event.kind == 12))))) h1 →
      xIte (c.event.kind == 1) (fun J => J (c.event.kind == 1) h1) (fun J => xIte (c.event.kind == 2) (fun J => J (c.event.kind == 2) h1) (fun J => xIte (c.event.kind == 3) (fun J => J (c.event.kind == 3) h1) (fun J => xIte (c.event.kind == 9) (fun J => J (c.event.kind == 9) h1) (fun J => xIte (c.event.kind == 11) (fun J => J (c.event.kind == 11) h1) (fun J => J (c.event.kind == 12) h1) (fun x h' => J x h')) (fun x h' => J x h')) (fun x h' => J x h')) (fun x h' => J x h')) K := by
    intro K hK
    cases e1 : (c.event.kind == 1) <;> cases e2 : (c.event.kind == 2) <;> cases e3 : (c.event.kind == 3) <;> cases e4 : (c.event.kind == 9) <;> cases e5 : (c.event.kind == 11) <;> simp only [e1, e2, e3, e4, e5, Bool.true_or, Bool.false_or] at hK <;> simp [xIte, hK]
  refine six _ ⟨fun hk => ?_, fun hk => ?_⟩
  · refine ⟨?_, l⟩
    unfold Cl.may
    rw [if_neg hx', if_pos (by simp at hk; omega)]
  have nk : ¬(c.event.kind = 1 ∨ c.event.kind = 2 ∨ c.event.kind = 3 ∨ c.event.kind = 9 ∨ c.event.kind = 11 ∨ c.event.kind = 12) := by
    simp at hk; omega
  refine ⟨fun h8 => ?_, fun h8 => ?_⟩
  · have h8 := beq_iff_eq.1 h8
    simp only [xNn_some, add_mk, cell_mk, upd_at, del_at, if_true, if_false, Option.bind_some, List.getElem?_toArray, List.getElem?_cons_succ, List.getElem?_cons_zero, oI_some, oS_some, oM_some, oB_some, oP_some, oT_some, xIdx_some, Nat.zero_add, Nat.add_zero, Nat.mul_one, eb]
    exact ⟨by unfold Cl.may; rw [if_neg hx', if_neg nk, if_pos h8], l⟩
  have n8 : c.event.kind ≠ 8 := by simpa using h8
  refine ⟨fun h10 => ?_, fun h10 => ?_⟩
  · have h10 := beq_iff_eq.1 h10
    simp only [xNn_some, add_mk, cell_mk, upd_at, del_at, if_true, if_false, Option.bind_some, List.getElem?_toArray, List.getElem?_cons_succ, List.getElem?_cons_zero, oI_some, oS_some, oM_some, oB_some, oP_some, oT_some, xIdx_some, Nat.zero_add, Nat.add_zero, Nat.mul_one, eb]
    exact ⟨by unfold Cl.may; rw [if_neg hx', if_neg nk, if_neg n8, if_pos h10], l⟩
  have n10 : c.event.kind ≠ 10 := by simpa using h10
  exact ⟨by unfold Cl.may; rw [if_neg hx', if_neg nk, if_neg n8, if_neg n10], l⟩

/-! ### Which error -/
theorem meets_rAsk {h : PH} {a : Option Addr} {n c : Nat} {l : List Cl} (x : ClsAt h a l) (hl : l.length = n) (hn : n ≤ 1000000) (t o m : Int) :
    Meets Try.prog 62 #[.int .i64 t, .int .i64 o, .int .i64 m, .slice a n c] h fun v h' => v = ret14 (if newOk t o m = true then Rm.new t o m else Rm.new 0 0 0, askE t o m l) ∧ h' = h := by
  apply Meets.same
  apply P_ref23_asked_of
  unfold P_ref23_asked
  refine xNew_intro fun b8 h1 l1 n8 e8 => ?_
  have ans : ∀ (b10 : Nat) (R : Rm) (h' : PH) (e : Int), R.Wf → h1.le h' → h' b10 = some (.cells (rmA R) 77 (0, 0)) → R = (if newOk t o m = true then Rm.new t o m else Rm.new 0 0 0) → e = askE t o m l →
      oBig h' ⟨b10, 0, none⟩ 227 fun x => xSt 227 h' ⟨b8, 0, none⟩ x.toList fun h'' => oBig h'' ⟨b8, 0, none⟩ 227 fun y => (Value.tuple #[.agg y, .int .i64 e] = ret14 (if newOk t o m = true then Rm.new t o m else Rm.new 0 0 0, askE t o m l) ∧ h.le h'') := by
    intro b10 R h' e w le e10 eR ee
    rw [oBig_eq e10 (rmA_size w)]
    refine xSt_all (le _ _ e8) zero_size (rmA_size w) (by decide) (one_rm R) ?_
    rw [oBig_eq (PH.upd_same _ _ _) (rmA_size w)]
    exact ⟨by rw [← eR, ← ee]; rfl, upd_le_upd n8 (PH.le_trans l1 le)⟩
  refine (meets_new' t o m).look ?_
  cases ok : newOk t o m with
  | false =>
    have w0 := wf_new 0 0 0
    rw [ok] at ans
    rw [if_neg (by simp)]
    rw [if_neg (by simp)] at ans
    refine used14 (r := (Rm.new 0 0 0, 1)) w0 ?_
    simp only [oAgg_mk, oI_some]
    refine ⟨rmA_size w0, ?_⟩
    intro b10 n10
    refine xSt_all (PH.upd_same _ _ _) zero_size (rmA_size w0) (by decide) (one_rm _) ?_
    refine ⟨fun _ => ?_, fun hx => (by cases hx)⟩
    exact ans b10 _ _ 1 w0 (upd_le_upd n10 (PH.le_upd n10)) (PH.upd_same _ _ _) rfl (by unfold askE; rw [ok]; rfl)
  | true =>
    have w0 := wf_new t o m
    rw [ok] at ans
    rw [if_pos rfl]
    rw [if_pos rfl] at ans
    refine used14 (r := (Rm.new t o m, 0)) w0 ?_
    simp only [oAgg_mk, oI_some]
    refine ⟨rmA_size w0, ?_⟩
    intro b10 n10
    refine xSt_all (PH.upd_same _ _ _) zero_size (rmA_size w0) (by decide) (one_rm _) ?_
    have l2 : h1.le ((h1.upd b10 (.cells (zeroC Try.prog 77) 77 (0, 0))).upd b10 (.cells (rmA (Rm.new t o m)) 77 (0, 0))) := upd_le_upd n10 (PH.le_upd n10)
    have e10 := PH.upd_same (h1.upd b10 (.cells (zeroC Try.prog 77) 77 (0, 0))) b10 (.cells (rmA (Rm.new t o m)) 77 (0, 0))
    generalize (h1.upd b10 (.cells (zeroC Try.prog 77) 77 (0, 0))).upd b10 (.cells (rmA (Rm.new t o m)) 77 (0, 0)) = h2 at l2 e10
    refine ⟨fun hx => (by cases hx), fun _ => ?_⟩
    refine xBlk_split (fun h' => l.all Cl.may = true ∧ h' = h2) ?_ fun K hK => ?_
    · rintro _ ⟨may, rfl⟩
      refine ⟨fun hx => ?_, fun hx => ?_⟩
      · have hx := of_decide_eq_true hx
        refine ans b10 _ _ 5 w0 l2 e10 rfl ?_
        unfold askE; rw [ok, may, if_neg (by simp), if_neg (by simp), if_pos (by omega)]
      · have hx := of_decide_eq_false hx
        refine ans b10 _ _ 0 w0 l2 e10 rfl ?_
        unfold askE; rw [ok, may, if_neg (by simp), if_neg (by simp), if_neg (by omega)]
    refine xLoop1 (fun (i : Int) h' => 0 ≤ i ∧ i ≤ n ∧ h' = h2 ∧ ∀ k, k < i.toNat → (cl l k).may = true) (fun (i : Int) _ => ((n : Int) - i).toNat) ?_ ⟨by omega, by omega, rfl, fun k hk => by simp at hk⟩
    rintro J i _ ⟨i0, i1, rfl, hs⟩ hJ
    rename_i h2
    refine ⟨fun hx => ?_, fun hx => ?_⟩
    · have hx := of_decide_eq_true hx
      have hw : IntKind.wrap .i64 (i + 1) = i + 1 := wrap64_id (by omega) (by omega)
      have hi : i.toNat < l.length := by omega
      obtain ⟨b, hb, c0, c1, c2, c3, c4, c5, c6⟩ := cls_at (x.le (PH.le_trans l1 l2)) (List.getElem?_eq_getElem hi)
      have hcl : cl l i.toNat = l[i.toNat] := by simp [cl, List.getD_eq_getElem?_getD, hi]
      rw [← hcl] at c0 c1 c2 c3 c4 c5 c6
      refine xBlk_split (fun h' => (cl l i.toNat).may = true ∧ h' = h2) (fun h' ⟨e, eh⟩ => ?_) fun K' hK' => ?_
      · rw [hw]
        refine hJ _ _ ⟨by omega, by omega, eh, fun k hk => ?_⟩ (by omega)
        by_cases hki : k = i.toNat
        · rw [hki]; exact e
        · exact hs k (by omega)
      · refine ⟨b, hb, i0, hx, ?_⟩
        simp only [c0, c1, c2, c3, c4, c5, c6, oI_some]
        refine (meets_rMay (cl l i.toNat)).look ?_
        simp only [oB_some]
        refine ⟨fun hm => ?_, fun hm => hK' _ ⟨by simpa using hm, rfl⟩⟩
        have hm : (cl l i.toNat).may = false := by simpa using hm
        refine ans b10 _ _ 1 w0 l2 e10 rfl ?_
        have : l.all Cl.may = false := by
          rw [List.all_eq_false]
          exact ⟨l[i.toNat], List.getElem_mem hi, by rw [← hcl, hm]; simp⟩
        unfold askE; rw [ok, this]; rfl
    · have hx := of_decide_eq_false hx
      refine hK _ ⟨?_, rfl⟩
      rw [List.all_eq_true]
      intro y hy
      obtain ⟨k, hk, rfl⟩ := List.getElem_of_mem hy
      have := hs k (by omega)
      have hcl : cl l k = l[k] := by simp [cl, List.getD_eq_getElem?_getD, hk]
      rw [← hcl]; exact this

/-! ### Whether a call may be the next one -/
def bL (b : Bool) : List Value := [.bool b]
theorem bL_len (b : Bool) : (bL b).length = 1 := rfl
def leftL (n done : Nat) : List Bool := (List.range n).map fun i => !done.testBit i
theorem leftL_len (n done : Nat) : (leftL n done).length = n := by simp [leftL]
theorem leftL_at {n done i : Nat} (h : i < n) : (leftL n done)[i]? = some (!done.testBit i) := by simp [leftL, h]
theorem leftL_set (n done k : Nat) : (leftL n done).set k false = leftL n (done ||| 2 ^ k) := by
  apply List.ext_getElem?
  intro i
  by_cases hi : i < n
  · rw [leftL_at hi, List.getElem?_set, leftL_at hi, leftL_len, testBit_or_pow]
    by_cases e : k = i
    · subst e; simp [hi]
    · simp [e]
  · rw [List.getElem?_eq_none (by rw [List.length_set, leftL_len]; omega), List.getElem?_eq_none (by rw [leftL_len]; omega)]
theorem leftL_zero (n : Nat) : leftL n 0 = List.replicate n true := by
  apply List.ext_getElem?
  intro i
  by_cases hi : i < n
  · rw [leftL_at hi, List.getElem?_replicate, if_pos hi]; simp
  · rw [List.getElem?_eq_none (by rw [leftL_len]; omega), List.getElem?_eq_none (by simp; omega)]

theorem meets_rFree {h : PH} {a : Option Addr} {n c : Nat} {l : List Cl} (x : ClsAt h a l) (hl : l.length = n) (hn : n ≤ 1000000) {p : Option Addr} {c' : Nat} {done : Nat} (r : RecsAt bL 1 h p (leftL n done)) (k : Nat) (hk : k < n) :
    Meets Try.prog 90 #[.slice a n c, .slice p n c', .int .i64 (k : Int)] h fun v h' => v = .bool (freeK l done k) ∧ h' = h := by
  apply Meets.same
  apply P_ref23_free_of
  unfold P_ref23_free
  have bit : ∀ {i : Nat}, i < n → ∃ b, p = some b ∧ h.cell (b.add (i * 1)) = some (.bool (!done.testBit i)) := by
    intro i hi
    obtain ⟨b, hb, hc⟩ := r.at_ i _ (leftL_at hi)
    have := hc 0 _ rfl
    rw [add_zero'] at this
    exact ⟨b, hb, this⟩
  have call : ∀ {i : Nat}, i < n → ∃ b, a = some b ∧ h.cell ((b.add (i * 7)).add 5) = some (.int .i64 (cl l i).fr) ∧ h.cell ((b.add (i * 7)).add 6) = some (.int .i64 (cl l i).to) := by
    intro i hi
    obtain ⟨b, hb, _, _, _, _, _, c5, c6⟩ := cls_at x (List.getElem?_eq_getElem (show i < l.length by omega))
    have hcl : cl l i = l[i] := by simp [cl, List.getD_eq_getElem?_getD, hl, hi]
    rw [← hcl] at c5 c6
    exact ⟨b, hb, c5, c6⟩
  have hkn : ((k : Nat) : Int) < (n : Int) := by omega
  refine xBlk_split (fun h' => (∀ i, i < n → (!decide ((cl l i).to < (cl l k).fr) || done.testBit i) = true) ∧ h' = h) ?_ fun K hK => ?_
  · rintro _ ⟨all, rfl⟩
    obtain ⟨b, hb, hc⟩ := bit hk
    refine ⟨b, hb, by omega, hkn, ?_⟩
    simp only [Int.toNat_natCast, hc, oB_some]
    refine ⟨?_, PH.le_refl _⟩
    have : freeK l done k = !done.testBit k := by
      unfold freeK
      have : ((List.range l.length).all fun i => !decide ((cl l i).to < (cl l k).fr) || done.testBit i) = true := by
        rw [List.all_eq_true]
        intro i hi
        exact all i (by rw [← hl]; simpa using hi)
      rw [this, Bool.and_true]
    rw [this]
  refine xLoop1 (fun (i : Int) h' => 0 ≤ i ∧ i ≤ n ∧ h' = h ∧ ∀ j, j < i.toNat → (!decide ((cl l j).to < (cl l k).fr) || done.testBit j) = true) (fun (i : Int) _ => ((n : Int) - i).toNat) ?_ ⟨by omega, by omega, rfl, fun k hk => by simp at hk⟩
  rintro J i _ ⟨i0, i1, rfl, hs⟩ hJ
  rename_i h
  refine ⟨fun hx => ?_, fun hx => ?_⟩
  · have hx := of_decide_eq_true hx
    have hw : IntKind.wrap .i64 (i + 1) = i + 1 := wrap64_id (by omega) (by omega)
    have hi : i.toNat < n := by omega
    refine xBlk_split (fun h' => (!decide ((cl l i.toNat).to < (cl l k).fr) || done.testBit i.toNat) = true ∧ h' = h) (fun h' ⟨e, eh⟩ => ?_) fun K' hK' => ?_
    · rw [hw]
      refine hJ _ _ ⟨by omega, by omega, eh, fun j hj => ?_⟩ (by omega)
      by_cases hki : j = i.toNat
      · rw [hki]; exact e
      · exact hs j (by omega)
    · obtain ⟨b, hb, hc⟩ := bit hi
      obtain ⟨q, hq, _, c6⟩ := call hi
      obtain ⟨q', hq', d5, _⟩ := call hk
      refine xDraw_le ?_
      refine ⟨b, hb, i0, hx, ?_⟩
      simp only [hc, oB_some]
      refine xSc_and (decide ((cl l i.toNat).to < (cl l k).fr)) (fun _ J' hJ' => ?_) ?_
      · refine ⟨q, hq, i0, hx, ?_⟩
        simp only [c6, oI_some]
        refine ⟨q', hq', by omega, hkn, ?_⟩
        simp only [Int.toNat_natCast, d5, oI_some]
        exact hJ'
      refine ⟨fun hc => ?_, fun hc => hK' _ ⟨?_, rfl⟩⟩
      · refine ⟨?_, PH.le_refl _⟩
        have : freeK l done k = false := by
          unfold freeK
          have : ((List.range l.length).all fun i => !decide ((cl l i).to < (cl l k).fr) || done.testBit i) = false := by
            rw [List.all_eq_false]
            refine ⟨i.toNat, by simp; omega, ?_⟩
            revert hc
            cases done.testBit i.toNat <;> cases decide ((cl l i.toNat).to < (cl l k).fr) <;> simp
          rw [this, Bool.and_false]
        rw [this]
      · revert hc
        cases done.testBit i.toNat <;> cases decide ((cl l i.toNat).to < (cl l k).fr) <;> simp
  · have hx := of_decide_eq_false hx
    exact hK _ ⟨fun j hj => hs j (by omega), rfl⟩

/-- What is left, copied. -/
theorem xCopyB {h : PH} {p : Option Addr} {n c : Nat} {bl : List Bool} (x : RecsAt bL 1 h p bl) (hn : bl.length = n) (h0 : n ≠ 0) (hl : n ≤ 1000000) {K : Option Addr → Nat → Nat → PH → Prop}
    (k : ∀ b c' junk, h b = none → n ≤ c' → List.length junk = c' - n → K (some ⟨b, 0, none⟩) n c' (h.upd b (.cells (recArr bL bl junk) 4 (0, 0)))) : xApp h 4 1 1 none 0 0 (.slice p n c) K := by
  obtain ⟨b0, hb0, _⟩ := x.at_ 0 (bl[0]'(by omega)) (List.getElem?_eq_getElem (by omega))
  subst hb0
  have fl : ∀ l : List Bool, (l.map bL).flatten = l.map Value.bool := by
    intro l
    induction l with
    | nil => rfl
    | cons a l ih => simp only [List.map_cons, List.flatten_cons, ih]; rfl
  refine ⟨(bl.map bL).flatten, n, ⟨rfl, by rw [fl]; simp [hn], fun i hi => ?_⟩, ?_, by omega, rfl, rfl, fun hz => absurd hz h0, fun _ b cap' junk nb hc hj => ?_⟩
  · have hi : i < bl.length := by omega
    obtain ⟨b1, hb1, hc⟩ := x.at_ i _ (List.getElem?_eq_getElem hi)
    simp only [Option.some.injEq] at hb1
    subst hb1
    have := hc 0 _ rfl
    rw [add_zero', Nat.mul_one] at this
    rw [this, fl]
    simp [hi]
  · rw [fl]
    intro v hv
    obtain ⟨b, _, rfl⟩ := List.mem_map.1 hv
    rfl
  · exact k b cap' junk nb hc (by simpa using hj)

end Go.Ck

/-
  The first order, the document's way.
-/
set_option linter.unusedSimpArgs false
set_option linter.unusedVariables false
namespace Go.Ck
open Go Go.Sx Go.Md Go.Rf Go.Proofs Go.Proofs.Ytnnedfhpicdacaa

theorem cand_no {l : List Cl} {f done : Nat} {s : Ms} {k : Nat} (h : (freeK l done k && s.code (cl l k).event == 0) = false) : cand l f done s k = none := by unfold cand; rw [h]; rfl

set_option maxHeartbeats 4000000 in
theorem meets_rRest {l : List Cl} (n12 : l.length ≤ 12) {g : PH} {a : Option Addr} {c : Nat} (xc : ClsAt g a l) :
    ∀ (f : Nat) (h : PH) (R : Rm) (s : Ms) (done : Nat) (p : Option Addr) (c' : Nat), g.le h → Sim R s → done < 2 ^ l.length → leftN l done = f → RecsAt bL 1 h p (leftL l.length done) →
      Meets Try.prog 63 #[.agg (rmA R), .slice a l.length c, .slice p l.length c', .int .i64 ((f : Nat) : Int)] h fun v h' => Told h h' v (srch l f done s) ∧ h.le h' := by
  intro f
  induction f with
  | zero =>
    intro h R s done p c' gl S hd hf r
    apply P_ref23_rest_of
    unfold P_ref23_rest
    refine xNew_intro fun b4 h1 l1 n4 e4 => ?_
    exact ⟨fun _ => ⟨⟨none, 0, 0, [], rfl, IntsIn.nil _, by simp⟩, l1⟩, fun hx => (by cases hx)⟩
  | succ f ih =>
    intro h R s done p c' gl S hd hf r
    have fle : leftN l done ≤ l.length := by
      unfold leftN
      exact Nat.le_trans (List.length_filter_le _ _) (by simp)
    apply P_ref23_rest_of
    unfold P_ref23_rest
    refine xNew_intro fun b4 h1 l1 n4 e4 => ?_
    have M1 : Mx R h1 b4 := ⟨e4, S.wf⟩
    refine ⟨fun hx => ?_, fun _ => ?_⟩
    · exfalso
      have := beq_iff_eq.1 hx
      omega
    have hwf : IntKind.wrap .i64 (((f + 1 : Nat) : Int) - 1) = (f : Int) := by
      rw [wrap64_id (by omega) (by omega)]; omega
    refine xBlk_split (fun h' => h1.le h' ∧ ∀ k, k < l.length → cand l f done s k = none) ?_ fun K hK => ?_
    · rintro h2 ⟨l2, no⟩
      have none_ : srch l (f + 1) done s = none := by
        rw [srch_succ, List.findSome?_eq_none_iff]
        intro k hk
        exact no k (by simpa using hk)
      rw [none_]
      exact ⟨rfl, PH.le_trans l1 l2⟩
    refine xLoop1 (fun (i : Int) h' => 0 ≤ i ∧ i ≤ l.length ∧ h1.le h' ∧ ∀ k, k < i.toNat → cand l f done s k = none) (fun (i : Int) _ => ((l.length : Int) - i).toNat) ?_ ⟨by omega, by omega, PH.le_refl _, fun k hk => by simp at hk⟩
    rintro J i h2 ⟨i0, i1, l2, no⟩ hJ
    refine ⟨fun hx => ?_, fun hx => hK _ ⟨l2, fun k hk => no k (by have := of_decide_eq_false hx; omega)⟩⟩
    have hx := of_decide_eq_true hx
    have hw : IntKind.wrap .i64 (i + 1) = i + 1 := wrap64_id (by omega) (by omega)
    have hi : i.toNat < l.length := by omega
    have hic : i = ((i.toNat : Nat) : Int) := by omega
    have step : ∀ h', h1.le h' → (∀ k, k < i.toNat + 1 → cand l f done s k = none) → J (i + 1) h' := fun h' k1 k2 => hJ _ _ ⟨by omega, by omega, k1, by rw [show (i + 1).toNat = i.toNat + 1 from by omega]; exact k2⟩ (by omega)
    clear hJ hK
    generalize hk : i.toNat = k at hi hic no step
    clear hk
    subst hic
    refine xBlk_split (fun h' => h1.le h' ∧ cand l f done s k = none) (fun h' ⟨k1, k2⟩ => by
      rw [hw]
      refine step h' k1 fun k' hk' => ?_
      by_cases e : k' = k
      · subst e; exact k2
      · exact no k' (by omega)) fun K hK => ?_
    clear step
    have le2 := PH.le_trans l1 l2
    have gl2 := PH.le_trans gl le2
    have r2 := r.le le2
    have M2 := M1.le l2
    refine (meets_rFree (xc.le gl2) rfl (by omega) r2 k hi).look ?_
    simp only [oB_some]
    refine ⟨fun hfr => ?_, fun hfr => ?_⟩
    · have hfr : freeK l done k = false := by simpa using hfr
      exact hK _ ⟨l2, cand_no (by rw [hfr]; rfl)⟩
    have hfr : freeK l done k = true := by simpa using hfr
    obtain ⟨rn, rm⟩ := sim_rng S
    obtain ⟨ba, hba, c0, c1, c2, c3, c4, c5, c6⟩ := cls_at (xc.le gl2) (List.getElem?_eq_getElem hi)
    have hcl : cl l k = l[k] := by simp [cl, List.getD_eq_getElem?_getD, hi]
    rw [← hcl] at c0 c1 c2 c3 c4 c5 c6
    obtain ⟨ac, aS⟩ := sim_apply S (cl l k).event
    have tail : ∀ (b11 : Nat) (h9 : PH), h2.le h9 → h9 b11 = some (.cells (rmA (R.apply (cl l k).event).1) 77 (0, 0)) → xIte ((R.apply (cl l k).event).2 != 0) (fun J => K h9) (fun J => J h9) (fun h10 =>
        xApp h10 4 1 1 none 0 0 (.slice p l.length c') fun x42a x42l x42c h_11 => xIdx x42a x42l ((k : Nat) : Int) 1 fun x45 => xSt 1 h_11 x45 [.bool false] fun h_12 => oBig h_12 ⟨b11, 0, none⟩ 227 fun x47 =>
          Meets Try.prog 63 #[.agg x47, .slice a l.length c, .slice x42a x42l x42c, .int .i64 (IntKind.wrap .i64 (((f + 1 : Nat) : Int) - 1))] h_12 fun v52 h_13 => oTup v52 2 fun cs => oIx cs[0]? fun w => oS (some w) fun x0a x0l x0c => oIx cs[1]? fun w1 => oB (some w1) fun x1 =>
            xIte x1 (fun J => xNew h_13 (.cells #[.int .i64 ((k : Nat) : Int)] 3 (0, 0)) fun b57 h_14 => xApp h_14 3 1 8 (some ⟨b57, 0, none⟩) 1 1 (.slice x0a x0l x0c) fun x59a x59l x59c h_15 => (Told h h_15 (.tuple #[.slice x59a x59l x59c, .bool true]) (srch l (f + 1) done s) ∧ h.le h_15)) (fun J => J h_13) (fun h_16 => K h_16)) := by
      intro b11 h9 l9 e11
      refine ⟨fun hc => ?_, fun hc => ?_⟩
      · have hc : s.code (cl l k).event ≠ 0 := by rw [← ac]; simpa using hc
        exact hK _ ⟨PH.le_trans l2 l9, cand_no (by rw [hfr]; simp [hc])⟩
      have hc : s.code (cl l k).event = 0 := by rw [← ac]; simpa using hc
      refine xCopyB (r2.le l9) (leftL_len _ _) (by omega) (by omega) ?_
      intro b c'' junk nb hcap hj
      refine ⟨_, rfl, by omega, by omega, ?_⟩
      simp only [add_mk, Nat.zero_add, Nat.mul_one, Int.toNat_natCast]
      have sz := rec_size (enc := bL) bL_len (l := leftL l.length done) (junk := junk)
      refine xSt_mk (PH.upd_same _ _ _) rfl (by decide) (by simp [oneCell]) (by rw [sz, leftL_len]; omega) ?_
      have hset := rec_set (enc := bL) bL_len (junk := junk) (!done.testBit k) false (leftL_at hi) 0 [.bool false] rfl (by simp)
      rw [Nat.mul_one, Nat.add_zero, leftL_set] at hset
      rw [hset]
      have lk := left_or hi (free_bit hfr)
      have l12 : h9.le ((h9.upd b (.cells (recArr bL (leftL l.length done) junk) 4 (0, 0))).upd b (.cells (recArr bL (leftL l.length (done ||| 2 ^ k)) junk) 4 (0, 0))) := upd_le_upd nb (PH.le_upd nb)
      have row : RowIn bL 1 4 ((h9.upd b (.cells (recArr bL (leftL l.length done) junk) 4 (0, 0))).upd b (.cells (recArr bL (leftL l.length (done ||| 2 ^ k)) junk) 4 (0, 0))) (some ⟨b, 0, none⟩) l.length c'' (leftL l.length (done ||| 2 ^ k)) [b] :=
        ⟨(leftL_len _ _).symm, .inr ⟨b, junk, rfl, PH.upd_same _ _ _, by rw [leftL_len]; exact hcap, by rw [leftL_len, Nat.mul_one]; exact hj, rfl⟩⟩
      generalize (h9.upd b (.cells (recArr bL (leftL l.length done) junk) 4 (0, 0))).upd b (.cells (recArr bL (leftL l.length (done ||| 2 ^ k)) junk) 4 (0, 0)) = h12 at l12 row
      rw [oBig_eq (l12 _ _ e11) (rmA_size aS.wf), hwf]
      have le12 := PH.le_trans l9 l12
      refine (ih h12 _ _ (done ||| 2 ^ k) _ c'' (PH.le_trans gl2 le12) aS (or_lt hd hi) (by omega) (row.recs bL_len)).mono ?_
      rintro v h5 ⟨told, l5⟩
      have le5 := PH.le_trans le12 l5
      cases hr : srch l f (done ||| 2 ^ k) (s.next (cl l k).event) with
      | none =>
        rw [hr] at told
        have told : v = .tuple #[.slice none 0 0, .bool false] := told
        subst told
        simp only [oTup_mk, oIx_some, oS_some, oB_some, List.getElem?_toArray, List.getElem?_cons_zero, List.getElem?_cons_succ]
        refine ⟨rfl, fun hx => (by cases hx), fun _ => hK _ ⟨PH.le_trans l2 le5, ?_⟩⟩
        unfold cand
        rw [hr]; simp
      | some ks' =>
        rw [hr] at told
        obtain ⟨p', m, c3, S', rfl, ints, nS⟩ := told
        simp only [oTup_mk, oIx_some, oS_some, oB_some, List.getElem?_toArray, List.getElem?_cons_zero, List.getElem?_cons_succ]
        refine ⟨rfl, fun _ => ?_, fun hx => (by cases hx)⟩
        refine xNew_intro fun b57 h6 l6 n57 e57 => ?_
        have ints6 := ints.of (h' := h6) fun b hb => by
          have := ints.known b hb
          cases hh : h5 b with
          | none => exact absurd hh this
          | some O => exact l6 _ _ hh
        have hlen := valid_len f _ _ _ hr
        refine app_ints ints6 e57 (by simp; omega) ?_
        intro p'' m' c4 h7 S'' i7 x7 n7
        have found : srch l (f + 1) done s = some (k :: ks') := by
          rw [srch_succ]
          refine findSome_range _ _ k hi _ ?_ no
          unfold cand
          rw [if_pos (by simp [hfr, hc]), hr]; rfl
        rw [found]
        have h57 : h5.le h7 := fun y O hy => x7 y O (l6 y O hy) fun hm => by
          simp only [List.mem_singleton] at hm
          subst hm; rw [n57] at hy; cases hy
        have hle5 := PH.le_trans le2 le5
        refine ⟨⟨p'', m', c4, S'', rfl, by simpa using i7, fun b hb => ?_⟩, PH.le_trans hle5 h57⟩
        rcases n7 b hb with h' | h'
        · subst h'; exact none_of hle5 n57
        · exact none_of hle5 (none_of l6 h')
    refine xDraw_le ?_
    simp only [M2.all]
    refine ⟨ba, hba, i0, hx, ?_⟩
    have c0' := c0
    simp only [add_zero'] at c0'
    simp only [Int.toNat_natCast, add_zero', c0', c1, c2, c3, c4, oI_some, oS_some, oB_some]
    refine ⟨?_, ?_⟩
    · refine (meets_apply' S.wf rn rm (cl l k).event).look ?_
      refine used14 (wf_apply S (cl l k).event) ?_
      try simp only [oAgg_mk, oI_some]
      refine ⟨PH.le_refl _, rmA_size aS.wf, ?_⟩
      intro b13 n13
      refine ⟨PH.le_upd n13, ?_⟩
      refine xSt_all (PH.upd_same _ _ _) zero_size (rmA_size aS.wf) (by decide) (one_rm _) ?_
      have l9 := upd_le_upd (O := .cells (rmA (R.apply (cl l k).event).1) 77 (0, 0)) n13 (PH.le_upd (O := .cells (zeroC Try.prog 77) 77 (0, 0)) n13)
      exact ⟨l9, tail b13 _ l9 (PH.upd_same _ _ _)⟩
    · intro b13 n13
      refine ⟨PH.le_upd n13, ?_⟩
      refine (meets_apply' S.wf rn rm (cl l k).event).look ?_
      refine used14 (wf_apply S (cl l k).event) ?_
      try simp only [oAgg_mk, oI_some]
      refine ⟨PH.le_upd n13, rmA_size aS.wf, ?_⟩
      refine xSt_all (PH.upd_same _ _ _) zero_size (rmA_size aS.wf) (by decide) (one_rm _) ?_
      have l9 := upd_le_upd (O := .cells (rmA (R.apply (cl l k).event).1) 77 (0, 0)) n13 (PH.le_upd (O := .cells (zeroC Try.prog 77) 77 (0, 0)) n13)
      exact ⟨l9, tail b13 _ l9 (PH.upd_same _ _ _)⟩

end Go.Ck

/- The readings of some functions, printed by a program of the session (wip/tools/sx.py): each by one equation that the kernel reckons. -/
set_option linter.unusedVariables false
namespace Go.Proofs.Ytnnedfhpicdacaa
open Go Go.Sx Go.Proofs
/-- futtock/futtocklaw23.CheckOrders -/
def A_law23_CheckOrders : Ann := .seq (.leaf) (.seq (.seq (.leaf) (.cond [] (.seq (.leaf) (.leaf)) (.leaf))) (.seq (.draw [(0, .flt), (1, .flt), (2, .flt), (3, .flt), (4, .flt), (5, .flt), (6, .flt), (7, .eff), (8, .eff), (9, .flt), (10, .flt), (11, .flt), (12, .flt), (13, .flt)]) (.seq (.draw [(0, .flt), (1, .flt), (2, .flt), (3, .flt), (4, .flt), (5, .flt), (6, .flt), (7, .eff), (8, .eff), (9, .flt), (10, .flt), (11, .flt), (12, .flt), (13, .flt)]) (.seq (.leaf) (.seq (.seq (.leaf) (.cond [] (.seq (.leaf) (.leaf)) (.leaf))) (.seq (.seq (.leaf) (.block [] (.loop [(87, (.int .i64))] (.seq (.leaf) (.seq (.cond [] (.leaf) (.leaf)) (.seq (.block [] (.seq (.leaf) (.seq (.draw [(0, .flt), (1, .flt), (2, .flt), (3, .flt), (4, .flt), (5, .flt), (6, .flt), (7, .flt), (8, .flt)]) (.cond [] (.seq (.leaf) (.leaf)) (.leaf))))) (.leaf))))))) (.seq (.seq (.leaf) (.block [] (.loop [(103, (.int .i64))] (.seq (.leaf) (.seq (.cond [] (.leaf) (.leaf)) (.seq (.block [] (.seq (.leaf) (.seq (.draw [(0, .flt), (2, .flt), (3, .flt), (4, .flt), (5, .flt), (1, .eff), (6, .eff), (7, .flt)]) (.cond [] (.seq (.leaf) (.leaf)) (.leaf))))) (.leaf))))))) (.seq (.leaf) (.leaf)))))))))
def P_law23_CheckOrders (a0_0 : Int) (a0_1 : Int) (a0_2 : Int) (a1a : Option Addr) (a1l : Nat) (a1c : Nat) (h : PH) (Q : Value → PH → Prop) : Prop :=
 xNew h (.cells #[(.int .i64 a0_0), (.int .i64 a0_1), (.int .i64 a0_2)] 50 (0, 0)) fun b2 h_1 =>
 xSc (decide ((((a1l : Nat) : Int) : Int) > 7)) true (fun J_1 =>
 J_1 (decide ((((a1l : Nat) : Int) : Int) ≤ 12)) h_1)
 (fun r22 h_2 =>
 xSc r22 false (fun J_2 =>
 J_2 (decide ((((a1l : Nat) : Int) : Int) > 100)) h_2)
 (fun r27 h_3 =>
 xIte r27 (fun J_3 =>
 Meets Try.prog 24 #[] h_3 fun v28 h_4 =>
 oB (some v28) fun x28 =>
 Q (.bool x28) h_4)
 (fun J_3 =>
 J_3 h_3)
 (fun  (h_5 : PH) =>
 xDraw h_5 fun hs_1 =>
 xIdxA (⟨b2, 0, none⟩ : Addr) 3 0 1 fun x30 =>
 oI .i64 (hs_1.cell x30) fun x31 =>
 xIdxA (⟨b2, 0, none⟩ : Addr) 3 1 1 fun x32 =>
 oI .i64 (hs_1.cell x32) fun x33 =>
 xIdxA (⟨b2, 0, none⟩ : Addr) 3 2 1 fun x34 =>
 oI .i64 (hs_1.cell x34) fun x35 =>
 Meets Try.prog 26 #[(.slice a1a a1l a1c)] h_5 fun v37 h_6 =>
 oS (some v37) fun x37a x37l x37c =>
 PH.le hs_1 h_6 ∧
 Meets Try.prog 25 #[(.int .i64 x31), (.int .i64 x33), (.int .i64 x35), (.slice x37a x37l x37c)] h_6 fun v38 h_7 =>
 oTup v38 2 fun x38cs =>
 oIx x38cs[0]? fun x38w =>
 oB (some x38w) fun x38_0 =>
 oIx x38cs[1]? fun x38w_1 =>
 oI .i64 (some x38w_1) fun x38_1 =>
 PH.le hs_1 h_7 ∧
 oB (some (.bool x38_0)) fun x39 =>
 oI .i64 (some (.int .i64 x38_1)) fun x40 =>
 xDraw h_7 fun hs_2 =>
 xIdxA (⟨b2, 0, none⟩ : Addr) 3 0 1 fun x42 =>
 oI .i64 (hs_2.cell x42) fun x43 =>
 xIdxA (⟨b2, 0, none⟩ : Addr) 3 1 1 fun x44 =>
 oI .i64 (hs_2.cell x44) fun x45 =>
 xIdxA (⟨b2, 0, none⟩ : Addr) 3 2 1 fun x46 =>
 oI .i64 (hs_2.cell x46) fun x47 =>
 Meets Try.prog 26 #[(.slice a1a a1l a1c)] h_7 fun v49 h_8 =>
 oS (some v49) fun x49a x49l x49c =>
 PH.le hs_2 h_8 ∧
 Meets Try.prog 27 #[(.int .i64 x43), (.int .i64 x45), (.int .i64 x47), (.slice x49a x49l x49c)] h_8 fun v50 h_9 =>
 oTup v50 2 fun x50cs =>
 oIx x50cs[0]? fun x50w =>
 oS (some x50w) fun x50_0a x50_0l x50_0c =>
 oIx x50cs[1]? fun x50w_1 =>
 oI .i64 (some x50w_1) fun x50_1 =>
 PH.le hs_2 h_9 ∧
 oS (some (.slice x50_0a x50_0l x50_0c)) fun x51a x51l x51c =>
 oI .i64 (some (.int .i64 x50_1)) fun x52 =>
 xIdxA (⟨b2, 0, none⟩ : Addr) 3 0 1 fun x54 =>
 oI .i64 (h_9.cell x54) fun x55 =>
 xIdxA (⟨b2, 0, none⟩ : Addr) 3 1 1 fun x56 =>
 oI .i64 (h_9.cell x56) fun x57 =>
 xIdxA (⟨b2, 0, none⟩ : Addr) 3 2 1 fun x58 =>
 oI .i64 (h_9.cell x58) fun x59 =>
 Meets Try.prog 28 #[(.int .i64 x55), (.int .i64 x57), (.int .i64 x59), (.slice a1a a1l a1c)] h_9 fun v61 h_10 =>
 oTup v61 3 fun x61cs =>
 oIx x61cs[0]? fun x61w =>
 oS (some x61w) fun x61_0a x61_0l x61_0c =>
 oIx x61cs[1]? fun x61w_1 =>
 oB (some x61w_1) fun x61_1 =>
 oIx x61cs[2]? fun x61w_2 =>
 oI .i64 (some x61w_2) fun x61_2 =>
 oS (some (.slice x61_0a x61_0l x61_0c)) fun x62a x62l x62c =>
 oB (some (.bool x61_1)) fun x63 =>
 oI .i64 (some (.int .i64 x61_2)) fun x64 =>
 xSc (!(x39 == x63)) false (fun J_4 =>
 J_4 (x40 != x64) h_10)
 (fun r72 h_11 =>
 xSc r72 false (fun J_5 =>
 J_5 (x52 != x64) h_11)
 (fun r77 h_12 =>
 xSc r77 false (fun J_6 =>
 J_6 (((x51l : Nat) : Int) != ((x62l : Nat) : Int)) h_12)
 (fun r84 h_13 =>
 xIte r84 (fun J_7 =>
 Q (.bool false) h_13)
 (fun J_7 =>
 J_7 h_13)
 (fun  (h_14 : PH) =>
 xBlk (fun J_8 =>
 ∃ n, xLoopN (fun _ _ => False) (fun J_9 =>
 (fun (x87 : Int) (h_15 : PH) =>
 xIte (decide ((x87 : Int) < ((x51l : Nat) : Int))) (fun J_10 =>
 J_10 h_15)
 (fun J_10 =>
 J_8 h_15)
 (fun  (h_16 : PH) =>
 xBlk (fun J_11 =>
 xDraw h_16 fun hs_3 =>
 xIdx x51a x51l x87 1 fun x92 =>
 oI .i64 (hs_3.cell x92) fun x93 =>
 xIdx x62a x62l x87 1 fun x96 =>
 oI .i64 (hs_3.cell x96) fun x97 =>
 xIte (x93 != x97) (fun J_12 =>
 Q (.bool false) h_16)
 (fun J_12 =>
 J_12 h_16)
 (fun  (h_17 : PH) =>
 J_11 h_17))
 (fun  (h_18 : PH) =>
 J_9 (IntKind.wrap .i64 (x87 + 1)) h_18)))) n 0 h_14)
 (fun  (h_19 : PH) =>
 Meets Try.prog 26 #[(.slice a1a a1l a1c)] h_19 fun v101 h_20 =>
 oS (some v101) fun x101a x101l x101c =>
 xBlk (fun J_13 =>
 ∃ n_1, xLoopN (fun _ _ => False) (fun J_14 =>
 (fun (x103 : Int) (h_21 : PH) =>
 xIte (decide ((x103 : Int) < ((x101l : Nat) : Int))) (fun J_15 =>
 J_15 h_21)
 (fun J_15 =>
 J_13 h_21)
 (fun  (h_22 : PH) =>
 xBlk (fun J_16 =>
 xIdx x101a x101l x103 7 fun x106 =>
 oI .i64 (h_22.cell (x106.add 0)) fun x107_0 =>
 oI .i64 (h_22.cell (x106.add 1)) fun x107_1 =>
 oI .i64 (h_22.cell (x106.add 2)) fun x107_2 =>
 oI .i64 (h_22.cell (x106.add 3)) fun x107_3 =>
 oI .i64 (h_22.cell (x106.add 4)) fun x107_4 =>
 oI .i64 (h_22.cell (x106.add 5)) fun x107_5 =>
 oI .i64 (h_22.cell (x106.add 6)) fun x107_6 =>
 xNew h_22 (.cells #[(.int .i64 0), (.int .i64 0), (.int .i64 0), (.int .i64 0), (.int .i64 0), (.int .i64 0), (.int .i64 0)] 61 (0, 0)) fun b14 h_23 =>
 xSt 7 h_23 (⟨b14, 0, none⟩ : Addr) [(.int .i64 x107_0), (.int .i64 x107_1), (.int .i64 x107_2), (.int .i64 x107_3), (.int .i64 x107_4), (.int .i64 x107_5), (.int .i64 x107_6)] fun h_24 =>
 xDraw h_24 fun hs_4 =>
 oI .i64 (hs_4.cell ((⟨b14, 0, none⟩ : Addr).add 0)) fun x108_0 =>
 oI .i64 (hs_4.cell ((⟨b14, 0, none⟩ : Addr).add 1)) fun x108_1 =>
 oI .i64 (hs_4.cell ((⟨b14, 0, none⟩ : Addr).add 2)) fun x108_2 =>
 oI .i64 (hs_4.cell ((⟨b14, 0, none⟩ : Addr).add 3)) fun x108_3 =>
 oI .i64 (hs_4.cell ((⟨b14, 0, none⟩ : Addr).add 4)) fun x108_4 =>
 oI .i64 (hs_4.cell ((⟨b14, 0, none⟩ : Addr).add 5)) fun x108_5 =>
 oI .i64 (hs_4.cell ((⟨b14, 0, none⟩ : Addr).add 6)) fun x108_6 =>
 xIdx a1a a1l x103 7 fun x112 =>
 oI .i64 (hs_4.cell (x112.add 0)) fun x113_0 =>
 oI .i64 (hs_4.cell (x112.add 1)) fun x113_1 =>
 oI .i64 (hs_4.cell (x112.add 2)) fun x113_2 =>
 oI .i64 (hs_4.cell (x112.add 3)) fun x113_3 =>
 oI .i64 (hs_4.cell (x112.add 4)) fun x113_4 =>
 oI .i64 (hs_4.cell (x112.add 5)) fun x113_5 =>
 oI .i64 (hs_4.cell (x112.add 6)) fun x113_6 =>
 Meets Try.prog 29 #[(.agg #[(.int .i64 x108_0), (.int .i64 x108_1), (.int .i64 x108_2), (.int .i64 x108_3), (.int .i64 x108_4), (.int .i64 x108_5), (.int .i64 x108_6)])] h_24 fun v109 h_25 =>
 oB (some v109) fun x109 =>
 PH.le hs_4 h_25 ∧
 Meets Try.prog 30 #[(.agg #[(.int .i64 x113_0), (.int .i64 x113_1), (.int .i64 x113_2), (.int .i64 x113_3), (.int .i64 x113_4), (.int .i64 x113_5), (.int .i64 x113_6)])] h_25 fun v114 h_26 =>
 oB (some v114) fun x114 =>
 PH.le hs_4 h_26 ∧
 xIte (!(x109 == x114)) (fun J_17 =>
 Q (.bool false) h_26)
 (fun J_17 =>
 J_17 h_26)
 (fun  (h_27 : PH) =>
 J_16 h_27))
 (fun  (h_28 : PH) =>
 J_14 (IntKind.wrap .i64 (x103 + 1)) h_28)))) n_1 0 h_20)
 (fun  (h_29 : PH) =>
 Meets Try.prog 24 #[] h_29 fun v117 h_30 =>
 oB (some v117) fun x117 =>
 Q (.bool x117) h_30)))) h_12) h_11) h_10)) h_2) h_1
theorem P_law23_CheckOrders_eq (a0_0 : Int) (a0_1 : Int) (a0_2 : Int) (a1a : Option Addr) (a1l : Nat) (a1c : Nat) (h : PH) (Q : Value → PH → Prop) : dFn Try.prog Try.f5 A_law23_CheckOrders #[(.agg #[(.int .i64 a0_0), (.int .i64 a0_1), (.int .i64 a0_2)]), (.slice a1a a1l a1c)] h Q = P_law23_CheckOrders a0_0 a0_1 a0_2 a1a a1l a1c h Q := by kernel_rfl
theorem P_law23_CheckOrders_of {a0_0 : Int} {a0_1 : Int} {a0_2 : Int} {a1a : Option Addr} {a1l : Nat} {a1c : Nat} {h : PH} {Q : Value → PH → Prop} (x : P_law23_CheckOrders a0_0 a0_1 a0_2 a1a a1l a1c h Q) : Meets Try.prog 5 #[(.agg #[(.int .i64 a0_0), (.int .i64 a0_1), (.int .i64 a0_2)]), (.slice a1a a1l a1c)] h Q :=
  spec_of Try.func5 mix (by kernel_rfl) ((P_law23_CheckOrders_eq a0_0 a0_1 a0_2 a1a a1l a1c h Q).symm ▸ x)
end Go.Proofs.Ytnnedfhpicdacaa

/-
  The walk of CheckOrders.
-/
set_option linter.unusedSimpArgs false
set_option linter.unusedVariables false
namespace Go.Ck
open Go Go.Sx Go.Md Go.Rf Go.Proofs Go.Proofs.Ytnnedfhpicdacaa

theorem meets_rOrder {h : PH} {a : Option Addr} {n c : Nat} {l : List Cl} (x : ClsAt h a l) (hl : l.length = n) (hn : n ≤ 1000000) (t o m : Int) :
    Meets Try.prog 28 #[.int .i64 t, .int .i64 o, .int .i64 m, .slice a n c] h fun v h' => h.le h' ∧ ∃ p k c' S, v = .tuple #[.slice p k c', .bool (askO t o m l).isSome, .int .i64 (askE t o m l)] ∧ IntsIn h' p k c' (((askO t o m l).getD []).map fun (k : Nat) => (k : Int)) S := by
  apply P_ref23_Order_of
  unfold P_ref23_Order
  refine (meets_rAsk x hl hn t o m).look ?_
  have w : (if newOk t o m = true then Rm.new t o m else Rm.new 0 0 0).Wf := by split <;> exact wf_new _ _ _
  refine used14 (r := (if newOk t o m = true then Rm.new t o m else Rm.new 0 0 0, askE t o m l)) w ?_
  simp only [oAgg_mk, oI_some]
  refine ⟨rmA_size w, ?_⟩
  intro b11 n11
  refine xSt_all (PH.upd_same _ _ _) zero_size (rmA_size w) (by decide) (one_rm _) ?_
  have l2 := upd_le_upd (O := .cells (rmA (if newOk t o m = true then Rm.new t o m else Rm.new 0 0 0)) 77 (0, 0)) n11 (PH.le_upd (O := .cells (zeroC Try.prog 77) 77 (0, 0)) n11)
  have e11 := PH.upd_same (h.upd b11 (.cells (zeroC Try.prog 77) 77 (0, 0))) b11 (.cells (rmA (if newOk t o m = true then Rm.new t o m else Rm.new 0 0 0)) 77 (0, 0))
  generalize (h.upd b11 (.cells (zeroC Try.prog 77) 77 (0, 0))).upd b11 (.cells (rmA (if newOk t o m = true then Rm.new t o m else Rm.new 0 0 0)) 77 (0, 0)) = h2 at l2 e11
  refine ⟨fun he => ?_, fun he => ?_⟩
  · have he : askE t o m l ≠ 0 := by simpa using he
    refine ⟨l2, none, 0, 0, [], ?_, ?_⟩
    · unfold askO; rw [if_neg he]; rfl
    · unfold askO; rw [if_neg he]; exact IntsIn.nil _
  have he : askE t o m l = 0 := by simpa using he
  have hO : askO t o m l = srch l l.length 0 (Ms.new t o m) := by unfold askO; rw [if_pos he]
  have ok : newOk t o m = true ∧ l.length ≤ 12 := by
    rcases askE_cases t o m l with h | h | h | h
    · rw [h.2] at he; cases he
    · rw [h.2.2] at he; cases he
    · rw [h.2.2.2] at he; cases he
    · exact ⟨h.1, h.2.2.1⟩
  obtain ⟨ok, n12⟩ := ok
  rw [if_pos ok] at e11 w
  subst hl
  refine ⟨by omega, by omega, by omega, by omega, ?_⟩
  intro b30 n30
  simp only [Int.toNat_natCast]
  have S0 := sim_new ok
  let I : Nat → PH → Prop := fun i h' => h2.le h' ∧ ∃ bl : List Bool, h' b30 = some (.cells (recArr bL bl []) 4 (0, 0)) ∧ bl.length = l.length ∧ ∀ j, j < i → bl[j]? = some true
  have I0 : I 0 (h2.upd b30 (.cells (List.replicate l.length [Value.bool false]).flatten.toArray 4 (0, 0))) := by
    refine ⟨PH.le_upd n30, List.replicate l.length false, ?_, by simp, fun j hj => by omega⟩
    rw [PH.upd_same]
    unfold recArr
    rw [List.map_replicate, List.append_nil]; rfl
  refine xBlk_split (I l.length) ?_ fun K hK => ?_
  · rintro h3 ⟨l3, bl, e30, hlen, all⟩
    have hbl : bl = leftL l.length 0 := by
      rw [leftL_zero]
      apply List.ext_getElem?
      intro j
      by_cases hj : j < l.length
      · rw [all j hj, List.getElem?_replicate, if_pos hj]
      · rw [List.getElem?_eq_none (by omega), List.getElem?_eq_none (by simp; omega)]
    subst hbl
    simp only [oBig_eq (l3 _ _ e11) (rmA_size w)]
    have row : RowIn bL 1 4 h3 (some ⟨b30, 0, none⟩) l.length l.length (leftL l.length 0) [b30] := ⟨(leftL_len _ _).symm, .inr ⟨b30, [], rfl, e30, by rw [leftL_len]; exact Nat.le_refl _, by rw [leftL_len]; simp, rfl⟩⟩
    have le3 := PH.le_trans l2 l3
    refine (meets_rRest n12 (x.le le3) l.length h3 _ _ 0 _ l.length (PH.le_refl _) S0 (Nat.two_pow_pos _) (left_start l) (row.recs bL_len)).mono ?_
    rintro v h4 ⟨told, l4⟩
    rw [← hO] at told
    have le4 := PH.le_trans le3 l4
    cases hr : askO t o m l with
    | none =>
      rw [hr] at told
      have told : v = .tuple #[.slice none 0 0, .bool false] := told
      subst told
      simp only [oTup_mk, oIx_some, oS_some, oB_some, List.getElem?_toArray, List.getElem?_cons_zero, List.getElem?_cons_succ]
      exact ⟨rfl, le4, none, 0, 0, [], by rw [he]; rfl, IntsIn.nil _⟩
    | some ks =>
      rw [hr] at told
      obtain ⟨p, q, c3, S, rfl, ints, nS⟩ := told
      simp only [oTup_mk, oIx_some, oS_some, oB_some, List.getElem?_toArray, List.getElem?_cons_zero, List.getElem?_cons_succ]
      exact ⟨rfl, le4, p, q, c3, S, by rw [he]; rfl, ints⟩
  refine xLoop1 (fun (i : Int) h' => 0 ≤ i ∧ i ≤ l.length ∧ I i.toNat h') (fun (i : Int) _ => ((l.length : Int) - i).toNat) ?_ ⟨by omega, by omega, I0⟩
  rintro J i h3 ⟨i0, i1, l3, bl, e30, hlen, all⟩ hJ
  refine ⟨fun hx => ?_, fun hx => ?_⟩
  · have hx := of_decide_eq_true hx
    have hw : IntKind.wrap .i64 (i + 1) = i + 1 := wrap64_id (by omega) (by omega)
    have hi : i.toNat < bl.length := by omega
    refine xBlk_split (I (i.toNat + 1)) (fun h' k => by rw [hw]; exact hJ _ _ ⟨by omega, by omega, by rw [show (i + 1).toNat = i.toNat + 1 from by omega]; exact k⟩ (by omega)) fun K hK => ?_
    refine ⟨_, rfl, i0, hx, ?_⟩
    simp only [add_mk, Nat.zero_add, Nat.mul_one]
    have sz := rec_size (enc := bL) bL_len (l := bl) (junk := [])
    refine xSt_mk e30 rfl (by decide) (by simp [oneCell]) (by rw [sz]; omega) ?_
    have hset := rec_set (enc := bL) bL_len (junk := []) bl[i.toNat] true (List.getElem?_eq_getElem hi) 0 [.bool true] rfl (by simp)
    rw [Nat.mul_one, Nat.add_zero] at hset
    rw [hset]
    refine hK _ ⟨upd_le_upd n30 l3, _, PH.upd_same _ _ _, by simpa using hlen, fun j hj => ?_⟩
    by_cases hji : j = i.toNat
    · subst hji; rw [List.getElem?_set_self hi]
    · rw [List.getElem?_set_ne (Ne.symm hji)]; exact all j (by omega)
  · have hx := of_decide_eq_false hx
    have : i.toNat = l.length := by omega
    exact hK _ ⟨l3, bl, e30, hlen, fun j hj => all j (by omega)⟩

set_option maxHeartbeats 2000000 in
theorem meets_CheckOrders {h : PH} {a : Option Addr} {n c : Nat} {l : List Cl} (x : ClsAt h a l) (hl : l.length = n) (t o m : Int) :
    Meets Try.prog 5 #[.agg #[.int .i64 t, .int .i64 o, .int .i64 m], .slice a n c] h fun v h' => v = .bool true ∧ h' = h := by
  apply Meets.same
  apply P_law23_CheckOrders_of
  unfold P_law23_CheckOrders
  refine xNew_intro fun b2 h1 l1 n2 e2 => ?_
  have s0 : ∀ {h' : PH}, h1.le h' → h'.cell ((⟨b2, 0, none⟩ : Addr).add (Int.toNat 0 * 1)) = some (.int .i64 t) := fun le => by rw [cellAdd (le _ _ e2)]; rfl
  have s1 : ∀ {h' : PH}, h1.le h' → h'.cell ((⟨b2, 0, none⟩ : Addr).add (Int.toNat 1 * 1)) = some (.int .i64 o) := fun le => by rw [cellAdd (le _ _ e2)]; rfl
  have s2 : ∀ {h' : PH}, h1.le h' → h'.cell ((⟨b2, 0, none⟩ : Addr).add (Int.toNat 2 * 1)) = some (.int .i64 m) := fun le => by rw [cellAdd (le _ _ e2)]; rfl
  have i0 : ∀ {K : Addr → Prop}, xIdxA ⟨b2, 0, none⟩ 3 0 1 K = K ((⟨b2, 0, none⟩ : Addr).add (Int.toNat 0 * 1)) := xIdxA_eq (by decide)
  have i1 : ∀ {K : Addr → Prop}, xIdxA ⟨b2, 0, none⟩ 3 1 1 K = K ((⟨b2, 0, none⟩ : Addr).add (Int.toNat 1 * 1)) := xIdxA_eq (by decide)
  have i2 : ∀ {K : Addr → Prop}, xIdxA ⟨b2, 0, none⟩ 3 2 1 K = K ((⟨b2, 0, none⟩ : Addr).add (Int.toNat 2 * 1)) := xIdxA_eq (by decide)
  refine xSc_and (decide ((n : Int) ≤ 12)) (fun _ J hJ => hJ) ?_
  refine xSc_or (decide ((n : Int) > 100)) (fun _ J hJ => hJ) ⟨fun _ => ?_, fun hc => ?_⟩
  · refine meets_alive23.look ?_
    simp only [oB_some]
    exact ⟨by trivial, l1⟩
  have hn : n ≤ 1000000 := by
    simp only [Bool.or_eq_false_iff, decide_eq_false_iff_not] at hc
    omega
  refine xDraw_le ?_
  have z := PH.le_refl h1
  simp only [i0, i1, i2, s0 z, s1 z, s2 z, oI_some]
  refine (meets_theirs23 (x.le l1) hl hn).mono ?_
  rintro _ h3 ⟨p1, c1, S1, rfl, row, l3, nS1⟩
  simp only [oS_some]
  refine ⟨l3, ?_⟩
  refine (meets_Can (row.recs clL_len) hl hn t o m).look ?_
  simp only [oTup_mk, oIx_some, oB_some, oI_some, List.getElem?_toArray, List.getElem?_cons_zero, List.getElem?_cons_succ]
  refine ⟨rfl, l3, ?_⟩
  refine xDraw_le ?_
  simp only [i0, i1, i2, s0 l3, s1 l3, s2 l3, oI_some]
  have le3 := PH.le_trans l1 l3
  refine (meets_theirs23 (x.le le3) hl hn).mono ?_
  rintro _ h4 ⟨p2, c2, S2, rfl, row2, l4, nS2⟩
  simp only [oS_some]
  refine ⟨l4, ?_⟩
  refine (meets_Order (row2.recs clL_len) hl hn t o m).mono ?_
  rintro _ h5 ⟨l5, p3, n3, c3, S3, rfl, ints, nS3⟩
  simp only [oTup_mk, oIx_some, oS_some, oB_some, oI_some, List.getElem?_toArray, List.getElem?_cons_zero, List.getElem?_cons_succ]
  have l35 := PH.le_trans l4 l5
  refine ⟨rfl, l35, ?_⟩
  have b5 := PH.le_trans l3 l35
  have le5 := PH.le_trans l1 b5
  simp only [i0, i1, i2, s0 b5, s1 b5, s2 b5, oI_some]
  refine (meets_rOrder (x.le le5) hl hn t o m).mono ?_
  rintro _ h6 ⟨l6, p4, n4, c4, S4, rfl, ints4⟩
  simp only [oTup_mk, oIx_some, oS_some, oB_some, oI_some, List.getElem?_toArray, List.getElem?_cons_zero, List.getElem?_cons_succ]
  refine ⟨rfl, ?_⟩
  have le6 := PH.le_trans le5 l6
  have ints3 := ints.of (h' := h6) fun b hb => by
    have := ints.known b hb
    cases hh : h5 b with
    | none => exact absurd hh this
    | some O => exact l6 _ _ hh
  have hn34 : n3 = n4 := ints.1.trans ints4.1.symm
  refine xSc_or (askE t o m l != askE t o m l) (fun _ J hJ => hJ) ?_
  refine xSc_or (askE t o m l != askE t o m l) (fun _ J hJ => hJ) ?_
  refine xSc_or ((n3 : Int) != (n4 : Int)) (fun _ J hJ => hJ) ?_
  have hno : (!((askO t o m l).isSome == (askO t o m l).isSome) || askE t o m l != askE t o m l || askE t o m l != askE t o m l || (n3 : Int) != (n4 : Int)) = false := by simp [hn34]
  rw [hno]
  refine ⟨fun hx => (by cases hx), fun _ => ?_⟩
  clear ints hno
  have h3len := ints3.1
  have h3b : (((askO t o m l).getD []).map (fun (k : Nat) => (k : Int))).length ≤ 1000000 := by
    rw [List.length_map]
    cases hr : askO t o m l with
    | none => simp
    | some ks =>
      unfold askO at hr
      split at hr
      · have := valid_len _ _ _ _ hr
        show ks.length ≤ _
        omega
      · cases hr
  generalize ((askO t o m l).getD []).map (fun (k : Nat) => (k : Int)) = L at ints3 ints4 h3len h3b
  subst hn34
  refine xBlk_split (fun h' => h6.le h') ?_ fun K hK => ?_
  · intro h7 l7
    have le7 := PH.le_trans le6 l7
    refine (meets_theirs23 (x.le le7) hl hn).mono ?_
    rintro _ h8 ⟨p5, c5, S5, rfl, row5, l8, nS5⟩
    simp only [oS_some]
    have le8 := PH.le_trans le7 l8
    refine xBlk_split (fun h' => h8.le h') ?_ fun K hK => ?_
    · intro h9 l9
      refine meets_alive23.look ?_
      simp only [oB_some]
      exact ⟨by trivial, PH.le_trans le8 l9⟩
    refine xLoop1 (fun (i : Int) h' => 0 ≤ i ∧ i ≤ n ∧ h8.le h') (fun (i : Int) _ => ((n : Int) - i).toNat) ?_ ⟨by omega, by omega, PH.le_refl _⟩
    rintro J i h9 ⟨q0, q1, l9⟩ hJ
    refine ⟨fun hx => ?_, fun hx => hK _ l9⟩
    have hx := of_decide_eq_true hx
    have hw : IntKind.wrap .i64 (i + 1) = i + 1 := wrap64_id (by omega) (by omega)
    have hi : i.toNat < l.length := by omega
    refine xBlk_split (fun h' => h8.le h') (fun h' l' => by rw [hw]; exact hJ _ _ ⟨by omega, by omega, l'⟩ (by omega)) fun K' hK' => ?_
    clear hJ hK
    have le9 := PH.le_trans le8 l9
    obtain ⟨b, hb, c0, c1', c2', c3', c4', c5', c6⟩ := cls_at ((row5.recs clL_len).le l9) (List.getElem?_eq_getElem hi)
    generalize hcl : l[i.toNat] = e at c0 c1' c2' c3' c4' c5' c6
    refine ⟨b, hb, q0, hx, ?_⟩
    simp only [c0, c1', c2', c3', c4', c5', c6, oI_some]
    refine xBox rfl rfl rfl (by decide) (clL_one e) fun b14 h10 l10 n14 e14 => ?_
    have e14' : h10 b14 = some (.cells (clL e).toArray 61 (0, 0)) := e14
    have cc : ∀ {k : Nat}, h10.cell ((⟨b14, 0, none⟩ : Addr).add k) = (clL e)[k]? := fun {k} => by rw [cellAdd e14', Nat.zero_add, List.getElem?_toArray]
    have k0 : h10.cell ((⟨b14, 0, none⟩ : Addr).add 0) = some (.int .i64 e.event.kind) := cc
    have k1 : h10.cell ((⟨b14, 0, none⟩ : Addr).add 1) = some (.int .i64 e.event.thread) := cc
    have k2 : h10.cell ((⟨b14, 0, none⟩ : Addr).add 2) = some (.int .i64 e.event.obj) := cc
    have k3 : h10.cell ((⟨b14, 0, none⟩ : Addr).add 3) = some (.int .i64 e.event.arg) := cc
    have k4 : h10.cell ((⟨b14, 0, none⟩ : Addr).add 4) = some (.int .i64 e.event.err) := cc
    have k5 : h10.cell ((⟨b14, 0, none⟩ : Addr).add 5) = some (.int .i64 e.fr) := cc
    have k6 : h10.cell ((⟨b14, 0, none⟩ : Addr).add 6) = some (.int .i64 e.to) := cc
    refine xDraw_le ?_
    simp only [k0, k1, k2, k3, k4, k5, k6, oI_some]
    have hi' : l[i.toNat]? = some e := by rw [List.getElem?_eq_getElem hi, hcl]
    obtain ⟨b', hb', d0, d1, d2, d3, d4, d5, d6⟩ := cls_at (x.le (PH.le_trans le9 l10)) hi'
    refine ⟨b', hb', q0, hx, ?_⟩
    simp only [d0, d1, d2, d3, d4, d5, d6, oI_some]
    refine (meets_cMay e).look ?_
    simp only [oB_some]
    refine ⟨PH.le_refl _, ?_⟩
    refine (meets_rMay e).look ?_
    simp only [oB_some]
    refine ⟨PH.le_refl _, fun hc => ?_, fun _ => hK' _ (PH.le_trans l9 l10)⟩
    simp at hc
  refine xLoop1 (fun (i : Int) h' => 0 ≤ i ∧ i ≤ n3 ∧ h' = h6) (fun (i : Int) _ => ((n3 : Int) - i).toNat) ?_ ⟨by omega, by omega, rfl⟩
  rintro J i _ ⟨q0, q1, rfl⟩ hJ
  rename_i h6
  refine ⟨fun hx => ?_, fun hx => hK _ (PH.le_refl _)⟩
  have hx := of_decide_eq_true hx
  have hw : IntKind.wrap .i64 (i + 1) = i + 1 := wrap64_id (by omega) (by omega)
  have hi : i.toNat < L.length := by omega
  refine xBlk_split (fun h' => h' = h6) (fun h' e => by rw [hw]; exact hJ _ _ ⟨by omega, by omega, e⟩ (by omega)) fun K' hK' => ?_
  obtain ⟨b, hb, hc⟩ := ints_at ints3 hi
  obtain ⟨b', hb', hc'⟩ := ints_at ints4 hi
  refine xDraw_le ?_
  refine ⟨b, hb, q0, hx, ?_⟩
  simp only [hc, oI_some]
  refine ⟨b', hb', q0, hx, ?_⟩
  simp only [hc', oI_some]
  exact ⟨fun hx => (by simp at hx), fun _ => hK' _ rfl⟩

end Go.Ck
