/-
  What is known to lead nowhere, in memory.
-/
import Derived.Test.YtnnedfhpicdacaaC4
import Derived.Test.YtnnedfhpicdacaaC5
set_option linter.unusedSimpArgs false
set_option linter.unusedVariables false
namespace Go.Ck
open Go Go.Sx Go.Md Go.Proofs Go.Proofs.Ytnnedfhpicdacaa

def ptL (X : ML) : List Value := [mp X]
theorem ptL_len (X : ML) : (ptL X).length = 1 := rfl
/-- A model that leads nowhere behind some calls. -/
def DeadM (l : List Cl) (h : PH) (T : List Nat) (d : Nat) (X : ML) : Prop := ∃ s, MRep h X s ∧ s.Flat ∧ srch l (leftN l d) d s = none ∧ ∀ y ∈ X.all, y ∉ T
def DeadE (l : List Cl) (h : PH) (T : List Nat) (M : Nat) (e : MapEntry) (b : Nat) : Prop :=
  ∃ (d : Nat) (xs : List ML) (p : Option Addr) (n c : Nat), e.key = .int .u64 (d : Int) ∧ e.val = .slice p n c ∧ RowIn ptL 1 23 h p n c xs [b] ∧ xs.length ≤ M ∧ ∀ X ∈ xs, DeadM l h T d X
structure DeadAt (l : List Cl) (h : PH) (db : Nat) (T : List Nat) (M : Nat) : Prop where
  ex : ∃ (es : Array MapEntry) (cl : Nat) (bs : List Nat), h db = some (.map es cl) ∧ T = db :: bs ∧ T.Nodup ∧ bs.length = es.size ∧ ∀ (i : Nat) e b, es.toList[i]? = some e → bs[i]? = some b → DeadE l h T M e b

theorem DeadM.le {l : List Cl} {h h' : PH} {T : List Nat} {d : Nat} {X : ML} (x : DeadM l h T d X) (le : h.le h') : DeadM l h' T d X := by
  obtain ⟨s, r, k, n, t⟩ := x; exact ⟨s, r.le le, k, n, t⟩
theorem DeadE.le {l : List Cl} {h h' : PH} {T : List Nat} {M : Nat} {e : MapEntry} {b : Nat} (x : DeadE l h T M e b) (le : h.le h') : DeadE l h' T M e b := by
  obtain ⟨d, xs, p, n, c, k, v, r, m, t⟩ := x
  exact ⟨d, xs, p, n, c, k, v, r.le le, m, fun X hX => (t X hX).le le⟩
theorem DeadAt.le {l : List Cl} {h h' : PH} {db : Nat} {T : List Nat} {M : Nat} (x : DeadAt l h db T M) (le : h.le h') : DeadAt l h' db T M := by
  obtain ⟨es, cl, bs, e, ht, nd, hl, ha⟩ := x.ex
  exact ⟨es, cl, bs, le _ _ e, ht, nd, hl, fun i a b h1 h2 => (ha i a b h1 h2).le le⟩
theorem DeadAt.more {l : List Cl} {h : PH} {db : Nat} {T : List Nat} {M M' : Nat} (x : DeadAt l h db T M) (le : M ≤ M') : DeadAt l h db T M' := by
  obtain ⟨es, cl, bs, e, ht, nd, hl, ha⟩ := x.ex
  refine ⟨es, cl, bs, e, ht, nd, hl, fun i a b h1 h2 => ?_⟩
  obtain ⟨d, xs, p, n, c, k, v, r, m, t⟩ := ha i a b h1 h2
  exact ⟨d, xs, p, n, c, k, v, r, by omega, t⟩
theorem DeadAt.known {l : List Cl} {h : PH} {db : Nat} {T : List Nat} {M : Nat} (x : DeadAt l h db T M) : ∀ b ∈ T, ∃ O, h b = some O := by
  obtain ⟨es, cl, bs, e, rfl, nd, hl, ha⟩ := x.ex
  intro b hb
  rcases List.mem_cons.1 hb with rfl | hb
  · exact ⟨_, e⟩
  · obtain ⟨i, hi, rfl⟩ := List.getElem_of_mem hb
    have hi2 : i < es.toList.length := by simpa [hl] using hi
    obtain ⟨d, xs, p, n, c, k, v, r, m, t⟩ := ha i es.toList[i] bs[i] (List.getElem?_eq_getElem hi2) (List.getElem?_eq_getElem hi)
    exact r.known _ (by simp)

theorem findE_spec {k : Int} {kd : IntKind} : ∀ {es : List MapEntry} {i j : Nat} {v : Value}, (∀ e ∈ es, isKeyI kd e.key) → findE es (.int kd k) i = some (j, v) → i ≤ j ∧ ∃ e, es[j - i]? = some e ∧ e.key = .int kd k ∧ e.val = v := by
  intro es
  induction es with
  | nil => intro i j v _ h; cases h
  | cons e es ih =>
    intro i j v hk h
    unfold findE at h
    obtain ⟨a, ha⟩ := hk e (List.mem_cons_self ..)
    rw [ha, sameBits_int] at h
    split at h
    · rename_i hs
      simp only [Option.some.injEq, Prod.mk.injEq] at h
      obtain ⟨rfl, rfl⟩ := h
      have : k = a := by simpa using hs
      exact ⟨Nat.le_refl _, e, by simp, by rw [ha, this], rfl⟩
    · obtain ⟨h1, e', h2, h3⟩ := ih (fun e he => hk e (List.mem_cons_of_mem _ he)) h
      refine ⟨by omega, e', ?_, h3⟩
      rw [show j - i = (j - (i + 1)) + 1 from by omega]; simpa using h2

theorem DeadAt.keys {l : List Cl} {h : PH} {T : List Nat} {M : Nat} {es : Array MapEntry} {bs : List Nat} (hl : bs.length = es.size) (ha : ∀ (i : Nat) e b, es.toList[i]? = some e → bs[i]? = some b → DeadE l h T M e b) : ∀ e ∈ es.toList, isKeyI .u64 (MapEntry.key e) := by
  intro e he
  obtain ⟨i, hi, rfl⟩ := List.getElem_of_mem he
  have hi2 : i < bs.length := by simpa [hl] using hi
  obtain ⟨d, xs, p, n, c, k, v, r, m, t⟩ := ha i _ bs[i] (List.getElem?_eq_getElem hi) (List.getElem?_eq_getElem hi2)
  exact ⟨_, k⟩
theorem law_uint : KeyLaw Try.prog 167 (isKeyI .u64) := keyLawInt Try.underlying167

/-- What is found of some calls. -/
theorem DeadAt.look {l : List Cl} {h : PH} {db : Nat} {T : List Nat} {M : Nat} (x : DeadAt l h db T M) (d : Nat) {K : Option Value → Prop}
    (k0 : K none) (k1 : ∀ (xs : List ML) p n c b, RowIn ptL 1 23 h p n c xs [b] → xs.length ≤ M → (∀ X ∈ xs, DeadM l h T d X) → K (some (.slice p n c))) : xLook Try.prog 167 h (some db) (.int .u64 (d : Int)) K := by
  obtain ⟨es, cl, bs, e, rfl, nd, hl, ha⟩ := x.ex
  have hk := DeadAt.keys hl ha
  refine .inl ⟨db, es, cl, _, rfl, e, law_uint, ⟨_, rfl⟩, hk, ?_⟩
  unfold mapGet
  cases hf : findE es.toList (.int .u64 (d : Int)) 0 with
  | none => exact k0
  | some r =>
    obtain ⟨j, v⟩ := r
    obtain ⟨_, en, h1, h2, h3⟩ := findE_spec hk hf
    simp only [Nat.sub_zero] at h1
    have hj : j < bs.length := by
      have := (List.getElem?_eq_some_iff.1 h1).1
      simpa [hl] using this
    obtain ⟨d', xs, p, n, c, hkk, hv, r, m, t⟩ := ha j en bs[j] h1 (List.getElem?_eq_getElem hj)
    rw [hkk] at h2
    have : d' = d := by
      simp only [Value.int.injEq, true_and] at h2
      exact_mod_cast h2
    subst this
    simp only [Option.map_some]
    rw [← h3, hv]
    exact k1 xs p n c _ r m t

theorem meets_isDead {l : List Cl} {h : PH} {sp db : Nat} {T : List Nat} {M : Nat} {v0 v1 : Value} (es : h sp = some (.cells #[v0, v1, .map (some db)] 165 (0, 0))) (x : DeadAt l h db T M) (hM : M ≤ 1000000000000) {L : ML} {s : Ms} (r : MRep h L s) (k : s.Flat) (d : Nat) :
    Meets Try.prog 109 #[.pointer (some ⟨sp, 0, none⟩), .int .u64 (d : Int), mp L] h fun v h' => (∃ b, v = .bool b ∧ (b = true → srch l (leftN l d) d s = none)) ∧ h' = h := by
  apply P_check_search_isDead_of
  unfold P_check_search_isDead
  simp only [xNn_some, add_mk, cell_mk, upd_at, del_at, if_true, if_false, Option.bind_some, List.getElem?_toArray, List.getElem?_cons_succ, List.getElem?_cons_zero, oI_some, oS_some, oM_some, oB_some, oP_some, oT_some, xIdx_some, Nat.zero_add, Nat.add_zero, Nat.mul_one, es]
  refine x.look d ?_ ?_
  · simp only [Option.getD_none, oS_some]
    refine xLoop1 (fun (i : Int) h' => h' = h ∧ i = 0) (fun _ _ => 0) ?_ ⟨rfl, rfl⟩
    rintro J i _ ⟨rfl, rfl⟩ hJ
    exact ⟨fun hx => (by simp at hx), fun _ => ⟨⟨false, rfl, fun h => (by cases h)⟩, rfl⟩⟩
  · intro xs p n c b ri hm hd
    have hn := ri.1
    have rcs := ri.recs ptL_len
    simp only [Option.getD_some, oS_some]
    refine xLoop1 (fun (i : Int) h' => h' = h ∧ 0 ≤ i ∧ i ≤ n) (fun (i : Int) _ => ((n : Int) - i).toNat) ?_ ⟨rfl, by omega, by omega⟩
    rintro J i _ ⟨rfl, i0, i1⟩ hJ
    refine ⟨fun hx => ?_, fun _ => ⟨⟨false, rfl, fun h => (by cases h)⟩, rfl⟩⟩
    have hx := of_decide_eq_true hx
    have hw : IntKind.wrap .i64 (i + 1) = i + 1 := wrap64_id (by omega) (by omega)
    have hi : i.toNat < xs.length := by omega
    obtain ⟨b', hb, hc⟩ := rcs.at_ i.toNat xs[i.toNat] (List.getElem?_eq_getElem hi)
    have c0 := hc 0 _ rfl
    rw [add_zero'] at c0
    obtain ⟨s', r', k', dead, _⟩ := hd _ (List.getElem_mem hi)
    generalize xs[i.toNat] = X at c0 r'
    subst hb
    refine ⟨b', rfl, i0, hx, ?_⟩
    simp only [c0, mp, oP_some]
    refine (meets_Same_flat r' r k' k).mono ?_
    rintro _ _ ⟨⟨y, rfl, hy⟩, rfl⟩
    simp only [oB_some]
    refine ⟨fun h => ?_, fun h => ?_⟩
    · have := hy h
      subst this
      exact ⟨⟨true, rfl, fun _ => dead⟩, by trivial⟩
    · rw [hw]
      exact hJ _ _ ⟨rfl, by omega, by omega⟩ (by omega)

end Go.Ck
