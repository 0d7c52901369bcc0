/-
  Maps of places in memory, and what is done to them.
-/
import Derived.Test.YtnnedfhpicdacaaM1
namespace Go.Md
open Go Go.Sx Go.Proofs

/-- The entries stand for the list. -/
def Ents {α : Type} (enc : α → Value) (es : List MapEntry) (l : Pl α) : Prop := es.map (fun e => (MapEntry.key e, MapEntry.val e)) = l.map fun p => (key2 p.1 p.2.1, enc p.2.2)
structure Stamps (es : List MapEntry) (cl : Nat) : Prop where
  lt : ∀ e ∈ es, MapEntry.born e < cl
  nd : (es.map (·.born)).Nodup
def MapRep {α : Type} (enc : α → Value) (h : PH) (b : Nat) (l : Pl α) : Prop := ∃ es cl, h b = some (.map es cl) ∧ Ents enc es.toList l ∧ Stamps es.toList cl

theorem Ents.keys {α : Type} {enc : α → Value} {es : List MapEntry} {l : Pl α} (h : Ents enc es l) : ∀ e ∈ es, isKey2 (MapEntry.key e) := by
  intro e he
  have : (MapEntry.key e, MapEntry.val e) ∈ es.map (fun e => (MapEntry.key e, MapEntry.val e)) := List.mem_map_of_mem he
  rw [h] at this
  obtain ⟨p, _, hp⟩ := List.mem_map.1 this
  simp only [Prod.mk.injEq] at hp
  exact ⟨_, _, hp.1.symm⟩

theorem Ents.nil_iff {α : Type} {enc : α → Value} {es : List MapEntry} (h : Ents enc es ([] : Pl α)) : es = [] := by simpa [Ents] using h
theorem Ents.cons_inv {α : Type} {enc : α → Value} {es : List MapEntry} {p : Int × Int × α} {l : Pl α} (h : Ents enc es (p :: l)) : ∃ e r, es = e :: r ∧ e.key = key2 p.1 p.2.1 ∧ e.val = enc p.2.2 ∧ Ents enc r l := by
  cases es with
  | nil => simp [Ents] at h
  | cons e r =>
    simp only [Ents, List.map_cons, List.cons.injEq, Prod.mk.injEq] at h
    exact ⟨e, r, rfl, h.1.1, h.1.2, h.2⟩
theorem Ents.cons {α : Type} {enc : α → Value} {e : MapEntry} {r : List MapEntry} {p : Int × Int × α} {l : Pl α} (hk : e.key = key2 p.1 p.2.1) (hv : e.val = enc p.2.2) (h : Ents enc r l) : Ents enc (e :: r) (p :: l) := by
  simp only [Ents, List.map_cons, hk, hv] at h ⊢; rw [h]

theorem same_iff (o t a b : Int) : Instr.sameBits 10000 (key2 o t) (key2 a b) = true ↔ a = o ∧ b = t := by
  rw [sameBits_key2]; simp; exact ⟨fun h => ⟨h.1.symm, h.2.symm⟩, fun h => ⟨h.1.symm, h.2.symm⟩⟩

theorem Ents.find {α : Type} {enc : α → Value} (o t : Int) : ∀ {es : List MapEntry} {l : Pl α} (i : Nat), Ents enc es l → (findE es (key2 o t) i).map (·.2) = (l.find o t).map enc := by
  intro es l
  induction l generalizing es with
  | nil => intro i h; rw [h.nil_iff]; rfl
  | cons p l ih =>
    intro i h
    obtain ⟨e, r, rfl, hk, hv, hr⟩ := h.cons_inv
    unfold findE Pl.find
    rw [hk]
    by_cases hs : p.1 = o ∧ p.2.1 = t
    · rw [if_pos ((same_iff _ _ _ _).2 hs), List.find?_cons_of_pos (by simpa using hs)]
      simp [hv]
    · rw [if_neg (fun x => hs ((same_iff _ _ _ _).1 x)), List.find?_cons_of_neg (by simpa using hs)]
      exact ih (i + 1) hr

theorem Ents.put {α : Type} {enc : α → Value} (o t : Int) (x : α) (nw : MapEntry) (hnk : nw.key = key2 o t) (hnv : nw.val = enc x) : ∀ {es : List MapEntry} {l : Pl α} (i : Nat), Ents enc es l →
    match findE es (key2 o t) i with
    | some (j, _) => i ≤ j ∧ Ents enc (es.modify (j - i) fun e => { e with key := key2 o t, val := enc x }) (l.put o t x)
    | none => Ents enc (es ++ [nw]) (l.put o t x) := by
  intro es l
  induction l generalizing es with
  | nil =>
    intro i h; rw [h.nil_iff]
    simp only [findE, Pl.put, List.nil_append]
    exact Ents.cons (p := (o, t, x)) hnk hnv (by simp [Ents])
  | cons p l ih =>
    intro i h
    obtain ⟨e, r, rfl, hk, hv, hr⟩ := h.cons_inv
    unfold findE Pl.put
    rw [hk]
    by_cases hs : p.1 = o ∧ p.2.1 = t
    · rw [if_pos ((same_iff _ _ _ _).2 hs), if_pos hs]
      refine ⟨Nat.le_refl _, ?_⟩
      simp only [Nat.sub_self, List.modify_zero_cons]
      exact Ents.cons (p := (o, t, x)) rfl rfl hr
    · rw [if_neg (fun x => hs ((same_iff _ _ _ _).1 x)), if_neg hs]
      have := ih (i + 1) hr
      cases hf : findE r (key2 o t) (i + 1) with
      | none => rw [hf] at this; exact Ents.cons hk hv this
      | some q =>
        obtain ⟨j, v⟩ := q
        rw [hf] at this
        refine ⟨by have := this.1; omega, ?_⟩
        have e1 : j - i = (j - (i + 1)) + 1 := by have := this.1; omega
        simp only [e1, List.modify_succ_cons]
        exact Ents.cons hk hv this.2

theorem Ents.del {α : Type} {enc : α → Value} (o t : Int) : ∀ {es : List MapEntry} {l : Pl α} (i : Nat), Ents enc es l →
    match findE es (key2 o t) i with
    | some (j, _) => i ≤ j ∧ Ents enc (es.eraseIdx (j - i)) (l.del o t)
    | none => Ents enc es (l.del o t) := by
  intro es l
  induction l generalizing es with
  | nil => intro i h; rw [h.nil_iff]; simp [findE, Pl.del, Ents]
  | cons p l ih =>
    intro i h
    obtain ⟨e, r, rfl, hk, hv, hr⟩ := h.cons_inv
    unfold findE Pl.del
    rw [hk]
    by_cases hs : p.1 = o ∧ p.2.1 = t
    · rw [if_pos ((same_iff _ _ _ _).2 hs), if_pos hs]
      refine ⟨Nat.le_refl _, ?_⟩
      simpa using hr
    · rw [if_neg (fun x => hs ((same_iff _ _ _ _).1 x)), if_neg hs]
      have := ih (i + 1) hr
      cases hf : findE r (key2 o t) (i + 1) with
      | none => rw [hf] at this; exact Ents.cons hk hv this
      | some q =>
        obtain ⟨j, v⟩ := q
        rw [hf] at this
        refine ⟨by have := this.1; omega, ?_⟩
        have e1 : j - i = (j - (i + 1)) + 1 := by have := this.1; omega
        simp only [e1, List.eraseIdx_cons_succ]
        exact Ents.cons hk hv this.2

theorem map_born_modify (k v : Value) (es : List MapEntry) (j : Nat) : (es.modify j fun e => { e with key := k, val := v }).map (·.born) = es.map (·.born) := by
  induction es generalizing j with
  | nil => simp
  | cons e r ih => cases j with
    | zero => simp
    | succ j => simp [ih]

theorem Stamps.of_born {es es' : List MapEntry} {cl : Nat} (h : Stamps es cl) (e : es'.map (·.born) = es.map (·.born)) : Stamps es' cl := by
  refine ⟨fun x hx => ?_, by rw [e]; exact h.nd⟩
  have : x.born ∈ es'.map (·.born) := List.mem_map_of_mem hx
  rw [e] at this
  obtain ⟨y, hy, hh⟩ := List.mem_map.1 this
  rw [← hh]; exact h.lt y hy
theorem Stamps.sub {es es' : List MapEntry} {cl : Nat} (h : Stamps es cl) (s : es'.Sublist es) : Stamps es' cl := ⟨fun x hx => h.lt x (s.subset hx), h.nd.sublist (s.map _)⟩
theorem Stamps.push {es : List MapEntry} {cl : Nat} (h : Stamps es cl) (k v : Value) : Stamps (es ++ [{ key := k, val := v, born := cl }]) (cl + 1) := by
  refine ⟨fun x hx => ?_, ?_⟩
  · rcases List.mem_append.1 hx with hx | hx
    · have := h.lt x hx; omega
    · simp at hx; subst hx; simp
  · rw [List.map_append, List.nodup_append]
    refine ⟨h.nd, by simp, ?_⟩
    intro a ha b hb
    simp at hb; subst hb
    obtain ⟨y, hy, rfl⟩ := List.mem_map.1 ha
    have := h.lt y hy; omega

theorem mapGet_rep {α : Type} {enc : α → Value} {es : Array MapEntry} {l : Pl α} (h : Ents enc es.toList l) (o t : Int) : mapGet es (key2 o t) = (l.find o t).map enc := h.find o t 0

theorem mapPut_rep {α : Type} {enc : α → Value} {es : Array MapEntry} {cl : Nat} {l : Pl α} (h : Ents enc es.toList l) (s : Stamps es.toList cl) (o t : Int) (x : α) :
    ∃ es' cl', mapPut es cl (key2 o t) (enc x) = .map es' cl' ∧ Ents enc es'.toList (l.put o t x) ∧ Stamps es'.toList cl' := by
  have := h.put o t x { key := key2 o t, val := enc x, born := cl } rfl rfl 0
  unfold mapPut
  cases hf : findE es.toList (key2 o t) 0 with
  | none =>
    rw [hf] at this
    refine ⟨_, _, rfl, by simpa using this, ?_⟩
    simpa using s.push (key2 o t) (enc x)
  | some q =>
    obtain ⟨j, v⟩ := q
    rw [hf] at this
    refine ⟨_, _, rfl, by simpa using this.2, ?_⟩
    rw [Array.toList_modify]
    exact s.of_born (map_born_modify _ _ _ _)

theorem mapDel_rep {α : Type} {enc : α → Value} {es : Array MapEntry} {cl : Nat} {l : Pl α} (h : Ents enc es.toList l) (s : Stamps es.toList cl) (o t : Int) :
    ∃ es' cl', mapDel es cl (key2 o t) = .map es' cl' ∧ Ents enc es'.toList (l.del o t) ∧ Stamps es'.toList cl' := by
  have := h.del o t 0
  unfold mapDel
  cases hf : findE es.toList (key2 o t) 0 with
  | none =>
    rw [hf] at this
    exact ⟨_, _, rfl, this, s⟩
  | some q =>
    obtain ⟨j, v⟩ := q
    rw [hf] at this
    refine ⟨_, _, rfl, by simpa using this.2, ?_⟩
    rw [Array.toList_eraseIdxIfInBounds]
    exact s.sub (List.eraseIdx_sublist _ _)

/-! ### In memory -/
theorem law122 : KeyLaw Try.prog 122 isKey2 := keyLaw2' (by kernel_rfl)

theorem look_rep {α : Type} {enc : α → Value} {h : PH} {b : Nat} {l : Pl α} (r : MapRep enc h b l) (o t : Int) {K : Option Value → Prop} (k : K ((l.find o t).map enc)) : xLook Try.prog 122 h (some b) (.agg #[.int .i64 o, .int .i64 t]) K := by
  obtain ⟨es, cl, hb, he, hs⟩ := r
  refine .inl ⟨b, es, cl, isKey2, rfl, hb, law122, ⟨o, t, rfl⟩, he.keys, ?_⟩
  rw [show (Value.agg #[.int .i64 o, .int .i64 t]) = key2 o t from rfl, mapGet_rep he]; exact k
theorem put_rep {α : Type} {enc : α → Value} {h : PH} {b : Nat} {l : Pl α} (r : MapRep enc h b l) (o t : Int) (x : α) {K : PH → Prop} {v : Value} (hv : v = enc x) (k : ∀ O, MapRep enc (h.upd b O) b (l.put o t x) → K (h.upd b O)) : xPut Try.prog 122 h (some b) (.agg #[.int .i64 o, .int .i64 t]) v K := by
  obtain ⟨es, cl, hb, he, hs⟩ := r
  refine ⟨b, es, cl, isKey2, rfl, hb, law122, ⟨o, t, rfl⟩, he.keys, k _ ?_⟩
  obtain ⟨es', cl', h1, h2, h3⟩ := mapPut_rep he hs o t x
  refine ⟨es', cl', ?_, h2, h3⟩
  rw [PH.upd_same, hv]; exact congrArg some h1
theorem del_rep {α : Type} {enc : α → Value} {h : PH} {b : Nat} {l : Pl α} (r : MapRep enc h b l) (o t : Int) {K : PH → Prop} (k : ∀ O, MapRep enc (h.upd b O) b (l.del o t) → K (h.upd b O)) : xDel Try.prog 122 h (some b) (.agg #[.int .i64 o, .int .i64 t]) K := by
  obtain ⟨es, cl, hb, he, hs⟩ := r
  refine ⟨b, es, cl, isKey2, rfl, hb, law122, ⟨o, t, rfl⟩, he.keys, k _ ?_⟩
  obtain ⟨es', cl', h1, h2, h3⟩ := mapDel_rep he hs o t
  refine ⟨es', cl', ?_, h2, h3⟩
  rw [PH.upd_same]; exact congrArg some h1
theorem MapRep.of {α : Type} {enc : α → Value} {h h' : PH} {b : Nat} {l : Pl α} (r : MapRep enc h b l) (e : h' b = h b) : MapRep enc h' b l := by
  obtain ⟨es, cl, hb, x⟩ := r; exact ⟨es, cl, e.trans hb, x⟩

end Go.Md
