/-
  An iterator over a map's keys: each key comes once.
-/
import Derived.Test.YtnnedfhpicdacaaT0
import Derived.Test.YtnnedfhpicdacaaFI
set_option linter.unusedSimpArgs false
set_option linter.unusedVariables false
namespace Go.Md
open Go Go.Sx Go.Proofs Go.Proofs.Ytnnedfhpicdacaa

/-- What the one who ranges keeps between rounds: of the entries that came, in blocks of its own. -/
structure Kept (I : List MapEntry → List Nat → PH → Prop) : Prop where
  stays : ∀ v S h h', I v S h → (∀ b ∈ S, h' b = h b) → I v S h'
  known : ∀ v S h, I v S h → ∀ b ∈ S, h b ≠ none

theorem meets_keys_waits {I : List MapEntry → List Nat → PH → Prop} (kI : Kept I) {h : PH} {a c0 l : Nat} {es : Array MapEntry} {cl : Nat} {S0 : List Nat} (ea : h a = some (.map es cl)) (ec : h c0 = some (.cells #[.map (some a)] 42 (0, 0))) (st : Stamps es.toList cl) (ks : ∀ e ∈ es.toList, isKey2 (MapEntry.key e))
    (ha : a ∉ S0) (h0 : I [] S0 h)
    (hY : ∀ v S h1 e, I v S h1 → e ∈ es.toList → (v ++ [e]).Nodup → (∀ x ∈ v ++ [e], x ∈ es.toList) → xYield Try.prog l #[MapEntry.key e] h1 fun r h2 => r = .bool true ∧ ∃ S', I (v ++ [e]) S' h2 ∧ Ext S h1 h2 ∧ ∀ b ∈ S', b ∈ S ∨ h1 b = none) :
    Meets Try.prog 105 #[.func (.yield l) #[] #[], .pointer (some ⟨c0, 0, none⟩)] h fun r h' => r = .tuple #[] ∧ ∃ v S, I v S h' ∧ (∀ e, e ∈ es.toList ↔ e ∈ v) ∧ v.Nodup ∧ Ext S0 h h' ∧ ∀ b ∈ S, b ∈ S0 ∨ h b = none := by
  apply P_maps_Keys_map_model_place_int_model_place_int_1_of
  unfold P_maps_Keys_map_model_place_int_model_place_int_1
  simp only [xNn_some, add_mk, cell_mk, upd_at, del_at, if_true, if_false, Option.bind_some, List.getElem?_toArray, List.getElem?_cons_succ, List.getElem?_cons_zero, oI_some, oS_some, oM_some, oB_some, oP_some, oT_some, xIdx_some, Nat.zero_add, Nat.add_zero, Nat.mul_one, ec]
  refine ⟨a, es, cl, rfl, ea, fun bi nbi => ?_⟩
  have aS0 : a ≠ bi := ne_of_known ea nbi
  have bS0 : bi ∉ S0 := fun hm => kI.known _ _ _ h0 _ hm nbi
  refine xLoop0 (fun h' => ∃ v S, ∃ seen : Array Nat, I v S h' ∧ h' bi = some (.mapIter (some a) cl seen cl) ∧ h' a = some (.map es cl) ∧ bi ∉ S ∧ a ∉ S ∧ v.Nodup ∧ (∀ e ∈ v, e ∈ es.toList) ∧ (∀ e ∈ es.toList, seen.contains e.born = true ↔ e ∈ v) ∧ Ext S0 h h' ∧ ∀ b ∈ S, b ∈ S0 ∨ h b = none)
    (fun h' => match h' bi with | some (.mapIter _ _ seen _) => leftOf es.toList seen | _ => 0) ?_ ⟨[], S0, #[], kI.stays _ _ _ _ h0 (fun b hb => PH.upd_ne _ _ (fun e => bS0 (e ▸ hb))), PH.upd_same _ _ _, (PH.upd_ne _ _ aS0).trans ea, bS0, ha, List.nodup_nil, by simp, by simp, (Ext.refl S0 h).upd_new nbi, fun b hb => .inl hb⟩
  rintro J h1 ⟨v, S, seen, hI, ei, e1, bS, aS, nd, sub, iff, xt, nw0⟩ hJ
  refine ⟨a, cl, seen, cl, es, cl, ei, e1, fun _ hne => st.all hne, fun hov => ?_, fun e he hs => ?_⟩
  · refine ⟨fun hx => (by cases hx), fun _ => ?_⟩
    refine ⟨by trivial, v, S, hI, fun e => ⟨fun he => ?_, sub e⟩, nd, xt, nw0⟩
    exact (iff e he).1 (hov e (by simpa using he) (st.lt e he))
  · refine ⟨fun _ => ?_, fun hx => (by cases hx)⟩
    have he' : e ∈ es.toList := by simpa using he
    obtain ⟨p, q, hk⟩ := ks e he'
    have less := left_push he' hs
    have ei2 := PH.upd_same h1 bi (.mapIter (some a) cl (seen.push e.born) cl)
    have e2 := (PH.upd_ne h1 (.mapIter (some a) cl (seen.push e.born) cl) aS0).trans e1
    have I2 := kI.stays _ _ _ (h1.upd bi (.mapIter (some a) cl (seen.push e.born) cl)) hI (fun b hb => PH.upd_ne _ _ (fun e => bS (e ▸ hb)))
    have xt2 := xt.upd_new (O := .mapIter (some a) cl (seen.push e.born) cl) nbi
    generalize h1.upd bi (.mapIter (some a) cl (seen.push e.born) cl) = h2 at ei2 e2 I2 xt2 ⊢
    refine ⟨a, cl, seen.push e.born, cl, es, e, e.born, ei2, back_push _ _, e2, ?_, ?_⟩
    · have := st.find he'
      simpa using this
    rw [hk]
    simp only [key2, oAgg_mk, xNn_some, add_mk, cell_mk, upd_at, del_at, if_true, if_false, Option.bind_some, List.getElem?_toArray, List.getElem?_cons_succ, List.getElem?_cons_zero, oI_some, oS_some, oM_some, oB_some, oP_some, oT_some, xIdx_some, Nat.zero_add, Nat.add_zero, Nat.mul_one]
    refine ⟨rfl, ?_⟩
    intro b3 n3
    refine xSt_mk (PH.upd_same _ _ _) rfl (by decide) (by simp [oneCell]) (by simp) ?_
    rw [PH.upd_upd, setN2]
    have l3 := PH.le_upd (O := .cells #[.int .i64 p, .int .i64 q] 122 (0, 0)) n3
    have e3 := PH.upd_same h2 b3 (.cells #[.int .i64 p, .int .i64 q] 122 (0, 0))
    have I3 := kI.stays _ _ _ (h2.upd b3 (.cells #[.int .i64 p, .int .i64 q] 122 (0, 0))) I2 (fun b hb => PH.upd_ne _ _ (fun e => kI.known _ _ _ I2 _ hb (e ▸ n3)))
    have xt3 : Ext S0 h (h2.upd b3 (.cells #[.int .i64 p, .int .i64 q] 122 (0, 0))) := fun x O hx hm => l3 _ _ (xt2 x O hx hm)
    generalize h2.upd b3 (.cells #[.int .i64 p, .int .i64 q] 122 (0, 0)) = h3 at l3 e3 I3 xt3 ⊢
    simp only [xNn_some, add_mk, cell_mk, upd_at, del_at, if_true, if_false, Option.bind_some, List.getElem?_toArray, List.getElem?_cons_succ, List.getElem?_cons_zero, oI_some, oS_some, oM_some, oB_some, oP_some, oT_some, xIdx_some, Nat.zero_add, Nat.add_zero, Nat.mul_one, e3]
    have nv : e ∉ v := fun hm => by have := (iff e he').2 hm; rw [hs] at this; cases this
    have nd2 : (v ++ [e]).Nodup := by
      rw [List.nodup_append]
      exact ⟨nd, by simp, fun x hx y hy => by simp at hy; subst hy; exact fun e => nv (e ▸ hx)⟩
    have sub2 : ∀ x ∈ v ++ [e], x ∈ es.toList := by
      intro x hx
      rcases List.mem_append.1 hx with h | h
      · exact sub x h
      · simp at h; subst h; exact he'
    have y := hY v S h3 e I3 he' nd2 sub2
    rw [hk] at y
    intro n W w stt
    obtain ⟨fn, tmps, assign, body, hr, hround⟩ := y n W w stt
    refine ⟨fn, tmps, assign, body, hr, hround.mono ?_⟩
    rintro ex w' ⟨r, h4, rfl, st4, rfl, S', I4, x4, nw⟩
    refine ⟨_, h4, rfl, st4, true, rfl, fun hx => (by cases hx), fun _ => ?_⟩
    have ei3 := l3 _ _ ei2
    have ea3 := l3 _ _ e2
    have notin : ∀ {b : Nat} {O : Obj}, h3 b = some O → b ∉ S → b ∉ S' := fun hb hn hm => by
      rcases nw _ hm with h | h
      · exact hn h
      · rw [hb] at h; cases h
    refine hJ h4 ⟨v ++ [e], S', seen.push e.born, I4, x4 _ _ ei3 bS, x4 _ _ ea3 aS, notin ei3 bS, notin ea3 aS, nd2, sub2, ?_, ?_, ?_⟩ ?_
    · intro x hx
      have i1 := iff x hx
      have key : (seen.push e.born).contains x.born = true ↔ seen.contains x.born = true ∨ x.born = e.born := by simp
      rw [key, i1, List.mem_append, List.mem_singleton]
      constructor
      · rintro (h | h)
        · exact .inl h
        · right
          have h1 := st.find hx
          have h2 := st.find he'
          rw [h, h2] at h1
          simpa using h1.symm
      · rintro (h | h)
        · exact .inl h
        · exact .inr (by rw [h])
    · exact fun x O hx hm => x4 _ _ (xt3 x O hx hm) fun hs => by
        rcases nw0 x hs with h | h
        · exact hm h
        · rw [hx] at h; cases h
    · intro b hb
      rcases nw b hb with h | h
      · exact nw0 b h
      · by_cases hm : b ∈ S0
        · exact .inl hm
        · right
          cases hh : (_ : PH) b with
          | none => exact hh
          | some O => rw [xt3 b O hh hm] at h; cases h
    · rw [x4 _ _ ei3 bS, ei]; exact less

theorem meets_keys_left {I : List MapEntry → List Nat → PH → Prop} (kI : Kept I) {h : PH} {a c0 l : Nat} {es : Array MapEntry} {cl : Nat} {S0 : List Nat} (ea : h a = some (.map es cl)) (ec : h c0 = some (.cells #[.map (some a)] 43 (0, 0))) (st : Stamps es.toList cl) (ks : ∀ e ∈ es.toList, isKey2 (MapEntry.key e))
    (ha : a ∉ S0) (h0 : I [] S0 h)
    (hY : ∀ v S h1 e, I v S h1 → e ∈ es.toList → (v ++ [e]).Nodup → (∀ x ∈ v ++ [e], x ∈ es.toList) → xYield Try.prog l #[MapEntry.key e] h1 fun r h2 => r = .bool true ∧ ∃ S', I (v ++ [e]) S' h2 ∧ Ext S h1 h2 ∧ ∀ b ∈ S', b ∈ S ∨ h1 b = none) :
    Meets Try.prog 108 #[.func (.yield l) #[] #[], .pointer (some ⟨c0, 0, none⟩)] h fun r h' => r = .tuple #[] ∧ ∃ v S, I v S h' ∧ (∀ e, e ∈ es.toList ↔ e ∈ v) ∧ v.Nodup ∧ Ext S0 h h' ∧ ∀ b ∈ S, b ∈ S0 ∨ h b = none := by
  apply P_maps_Keys_map_model_place_model_left_model_place_model_left_1_of
  unfold P_maps_Keys_map_model_place_model_left_model_place_model_left_1
  simp only [xNn_some, add_mk, cell_mk, upd_at, del_at, if_true, if_false, Option.bind_some, List.getElem?_toArray, List.getElem?_cons_succ, List.getElem?_cons_zero, oI_some, oS_some, oM_some, oB_some, oP_some, oT_some, xIdx_some, Nat.zero_add, Nat.add_zero, Nat.mul_one, ec]
  refine ⟨a, es, cl, rfl, ea, fun bi nbi => ?_⟩
  have aS0 : a ≠ bi := ne_of_known ea nbi
  have bS0 : bi ∉ S0 := fun hm => kI.known _ _ _ h0 _ hm nbi
  refine xLoop0 (fun h' => ∃ v S, ∃ seen : Array Nat, I v S h' ∧ h' bi = some (.mapIter (some a) cl seen cl) ∧ h' a = some (.map es cl) ∧ bi ∉ S ∧ a ∉ S ∧ v.Nodup ∧ (∀ e ∈ v, e ∈ es.toList) ∧ (∀ e ∈ es.toList, seen.contains e.born = true ↔ e ∈ v) ∧ Ext S0 h h' ∧ ∀ b ∈ S, b ∈ S0 ∨ h b = none)
    (fun h' => match h' bi with | some (.mapIter _ _ seen _) => leftOf es.toList seen | _ => 0) ?_ ⟨[], S0, #[], kI.stays _ _ _ _ h0 (fun b hb => PH.upd_ne _ _ (fun e => bS0 (e ▸ hb))), PH.upd_same _ _ _, (PH.upd_ne _ _ aS0).trans ea, bS0, ha, List.nodup_nil, by simp, by simp, (Ext.refl S0 h).upd_new nbi, fun b hb => .inl hb⟩
  rintro J h1 ⟨v, S, seen, hI, ei, e1, bS, aS, nd, sub, iff, xt, nw0⟩ hJ
  refine ⟨a, cl, seen, cl, es, cl, ei, e1, fun _ hne => st.all hne, fun hov => ?_, fun e he hs => ?_⟩
  · refine ⟨fun hx => (by cases hx), fun _ => ?_⟩
    refine ⟨by trivial, v, S, hI, fun e => ⟨fun he => ?_, sub e⟩, nd, xt, nw0⟩
    exact (iff e he).1 (hov e (by simpa using he) (st.lt e he))
  · refine ⟨fun _ => ?_, fun hx => (by cases hx)⟩
    have he' : e ∈ es.toList := by simpa using he
    obtain ⟨p, q, hk⟩ := ks e he'
    have less := left_push he' hs
    have ei2 := PH.upd_same h1 bi (.mapIter (some a) cl (seen.push e.born) cl)
    have e2 := (PH.upd_ne h1 (.mapIter (some a) cl (seen.push e.born) cl) aS0).trans e1
    have I2 := kI.stays _ _ _ (h1.upd bi (.mapIter (some a) cl (seen.push e.born) cl)) hI (fun b hb => PH.upd_ne _ _ (fun e => bS (e ▸ hb)))
    have xt2 := xt.upd_new (O := .mapIter (some a) cl (seen.push e.born) cl) nbi
    generalize h1.upd bi (.mapIter (some a) cl (seen.push e.born) cl) = h2 at ei2 e2 I2 xt2 ⊢
    refine ⟨a, cl, seen.push e.born, cl, es, e, e.born, ei2, back_push _ _, e2, ?_, ?_⟩
    · have := st.find he'
      simpa using this
    rw [hk]
    simp only [key2, oAgg_mk, xNn_some, add_mk, cell_mk, upd_at, del_at, if_true, if_false, Option.bind_some, List.getElem?_toArray, List.getElem?_cons_succ, List.getElem?_cons_zero, oI_some, oS_some, oM_some, oB_some, oP_some, oT_some, xIdx_some, Nat.zero_add, Nat.add_zero, Nat.mul_one]
    refine ⟨rfl, ?_⟩
    intro b3 n3
    refine xSt_mk (PH.upd_same _ _ _) rfl (by decide) (by simp [oneCell]) (by simp) ?_
    rw [PH.upd_upd, setN2]
    have l3 := PH.le_upd (O := .cells #[.int .i64 p, .int .i64 q] 122 (0, 0)) n3
    have e3 := PH.upd_same h2 b3 (.cells #[.int .i64 p, .int .i64 q] 122 (0, 0))
    have I3 := kI.stays _ _ _ (h2.upd b3 (.cells #[.int .i64 p, .int .i64 q] 122 (0, 0))) I2 (fun b hb => PH.upd_ne _ _ (fun e => kI.known _ _ _ I2 _ hb (e ▸ n3)))
    have xt3 : Ext S0 h (h2.upd b3 (.cells #[.int .i64 p, .int .i64 q] 122 (0, 0))) := fun x O hx hm => l3 _ _ (xt2 x O hx hm)
    generalize h2.upd b3 (.cells #[.int .i64 p, .int .i64 q] 122 (0, 0)) = h3 at l3 e3 I3 xt3 ⊢
    simp only [xNn_some, add_mk, cell_mk, upd_at, del_at, if_true, if_false, Option.bind_some, List.getElem?_toArray, List.getElem?_cons_succ, List.getElem?_cons_zero, oI_some, oS_some, oM_some, oB_some, oP_some, oT_some, xIdx_some, Nat.zero_add, Nat.add_zero, Nat.mul_one, e3]
    have nv : e ∉ v := fun hm => by have := (iff e he').2 hm; rw [hs] at this; cases this
    have nd2 : (v ++ [e]).Nodup := by
      rw [List.nodup_append]
      exact ⟨nd, by simp, fun x hx y hy => by simp at hy; subst hy; exact fun e => nv (e ▸ hx)⟩
    have sub2 : ∀ x ∈ v ++ [e], x ∈ es.toList := by
      intro x hx
      rcases List.mem_append.1 hx with h | h
      · exact sub x h
      · simp at h; subst h; exact he'
    have y := hY v S h3 e I3 he' nd2 sub2
    rw [hk] at y
    intro n W w stt
    obtain ⟨fn, tmps, assign, body, hr, hround⟩ := y n W w stt
    refine ⟨fn, tmps, assign, body, hr, hround.mono ?_⟩
    rintro ex w' ⟨r, h4, rfl, st4, rfl, S', I4, x4, nw⟩
    refine ⟨_, h4, rfl, st4, true, rfl, fun hx => (by cases hx), fun _ => ?_⟩
    have ei3 := l3 _ _ ei2
    have ea3 := l3 _ _ e2
    have notin : ∀ {b : Nat} {O : Obj}, h3 b = some O → b ∉ S → b ∉ S' := fun hb hn hm => by
      rcases nw _ hm with h | h
      · exact hn h
      · rw [hb] at h; cases h
    refine hJ h4 ⟨v ++ [e], S', seen.push e.born, I4, x4 _ _ ei3 bS, x4 _ _ ea3 aS, notin ei3 bS, notin ea3 aS, nd2, sub2, ?_, ?_, ?_⟩ ?_
    · intro x hx
      have i1 := iff x hx
      have key : (seen.push e.born).contains x.born = true ↔ seen.contains x.born = true ∨ x.born = e.born := by simp
      rw [key, i1, List.mem_append, List.mem_singleton]
      constructor
      · rintro (h | h)
        · exact .inl h
        · right
          have h1 := st.find hx
          have h2 := st.find he'
          rw [h, h2] at h1
          simpa using h1.symm
      · rintro (h | h)
        · exact .inl h
        · exact .inr (by rw [h])
    · exact fun x O hx hm => x4 _ _ (xt3 x O hx hm) fun hs => by
        rcases nw0 x hs with h | h
        · exact hm h
        · rw [hx] at h; cases h
    · intro b hb
      rcases nw b hb with h | h
      · exact nw0 b h
      · by_cases hm : b ∈ S0
        · exact .inl hm
        · right
          cases hh : (_ : PH) b with
          | none => exact hh
          | some O => rw [xt3 b O hh hm] at h; cases h
    · rw [x4 _ _ ei3 bS, ei]; exact less

end Go.Md
