/-
  Maps of places in memory, and what is done to them.
-/
import Derived.Laws.StructEq
import Derived.Test.YtnnedfhpicdacaaRows
import Derived.Test.YtnnedfhpicdacaaJO2

namespace Go.Md
open Go Go.Sx Go.Proofs

/-- The entries stand for the list. -/
def Ents {α : Type} (enc : α → Value) (es : List MapEntry) (l : Pl α) : Prop := es.map (fun e => (MapEntry.key e, MapEntry.val e)) = l.map fun p => (key2 p.1 p.2.1, enc p.2.2)
structure Stamps (es : List MapEntry) (cl : Nat) : Prop where
  lt : ∀ e ∈ es, MapEntry.born e < cl
  nd : (es.map (·.born)).Nodup
def MapRep {α : Type} (enc : α → Value) (h : PH) (b : Nat) (l : Pl α) : Prop := ∃ es cl, h b = some (.map es cl) ∧ Ents enc es.toList l ∧ Stamps es.toList cl

theorem Ents.keys {α : Type} {enc : α → Value} {es : List MapEntry} {l : Pl α} (h : Ents enc es l) : ∀ e ∈ es, isKey2 (MapEntry.key e) := by
  intro e he
  have : (MapEntry.key e, MapEntry.val e) ∈ es.map (fun e => (MapEntry.key e, MapEntry.val e)) := List.mem_map_of_mem he
  rw [h] at this
  obtain ⟨p, _, hp⟩ := List.mem_map.1 this
  simp only [Prod.mk.injEq] at hp
  exact ⟨_, _, hp.1.symm⟩

theorem Ents.nil_iff {α : Type} {enc : α → Value} {es : List MapEntry} (h : Ents enc es ([] : Pl α)) : es = [] := by simpa [Ents] using h
theorem Ents.cons_inv {α : Type} {enc : α → Value} {es : List MapEntry} {p : Int × Int × α} {l : Pl α} (h : Ents enc es (p :: l)) : ∃ e r, es = e :: r ∧ e.key = key2 p.1 p.2.1 ∧ e.val = enc p.2.2 ∧ Ents enc r l := by
  cases es with
  | nil => simp [Ents] at h
  | cons e r =>
    simp only [Ents, List.map_cons, List.cons.injEq, Prod.mk.injEq] at h
    exact ⟨e, r, rfl, h.1.1, h.1.2, h.2⟩
theorem Ents.cons {α : Type} {enc : α → Value} {e : MapEntry} {r : List MapEntry} {p : Int × Int × α} {l : Pl α} (hk : e.key = key2 p.1 p.2.1) (hv : e.val = enc p.2.2) (h : Ents enc r l) : Ents enc (e :: r) (p :: l) := by
  simp only [Ents, List.map_cons, hk, hv] at h ⊢; rw [h]

theorem same_iff (o t a b : Int) : Instr.sameBits 10000 (key2 o t) (key2 a b) = true ↔ a = o ∧ b = t := by
  rw [sameBits_key2]; simp; exact ⟨fun h => ⟨h.1.symm, h.2.symm⟩, fun h => ⟨h.1.symm, h.2.symm⟩⟩

theorem Ents.find {α : Type} {enc : α → Value} (o t : Int) : ∀ {es : List MapEntry} {l : Pl α} (i : Nat), Ents enc es l → (findE es (key2 o t) i).map (·.2) = (l.find o t).map enc := by
  intro es l
  induction l generalizing es with
  | nil => intro i h; rw [h.nil_iff]; rfl
  | cons p l ih =>
    intro i h
    obtain ⟨e, r, rfl, hk, hv, hr⟩ := h.cons_inv
    unfold findE Pl.find
    rw [hk]
    by_cases hs : p.1 = o ∧ p.2.1 = t
    · rw [if_pos ((same_iff _ _ _ _).2 hs), List.find?_cons_of_pos (by simpa using hs)]
      simp [hv]
    · rw [if_neg (fun x => hs ((same_iff _ _ _ _).1 x)), List.find?_cons_of_neg (by simpa using hs)]
      exact ih (i + 1) hr

theorem Ents.put {α : Type} {enc : α → Value} (o t : Int) (x : α) (nw : MapEntry) (hnk : nw.key = key2 o t) (hnv : nw.val = enc x) : ∀ {es : List MapEntry} {l : Pl α} (i : Nat), Ents enc es l →
    match findE es (key2 o t) i with
    | some (j, _) => i ≤ j ∧ Ents enc (es.modify (j - i) fun e => { e with key := key2 o t, val := enc x }) (l.put o t x)
    | none => Ents enc (es ++ [nw]) (l.put o t x) := by
  intro es l
  induction l generalizing es with
  | nil =>
    intro i h; rw [h.nil_iff]
    simp only [findE, Pl.put, List.nil_append]
    exact Ents.cons (p := (o, t, x)) hnk hnv (by simp [Ents])
  | cons p l ih =>
    intro i h
    obtain ⟨e, r, rfl, hk, hv, hr⟩ := h.cons_inv
    unfold findE Pl.put
    rw [hk]
    by_cases hs : p.1 = o ∧ p.2.1 = t
    · rw [if_pos ((same_iff _ _ _ _).2 hs), if_pos hs]
      refine ⟨Nat.le_refl _, ?_⟩
      simp only [Nat.sub_self, List.modify_zero_cons]
      exact Ents.cons (p := (o, t, x)) rfl rfl hr
    · rw [if_neg (fun x => hs ((same_iff _ _ _ _).1 x)), if_neg hs]
      have := ih (i + 1) hr
      cases hf : findE r (key2 o t) (i + 1) with
      | none => rw [hf] at this; exact Ents.cons hk hv this
      | some q =>
        obtain ⟨j, v⟩ := q
        rw [hf] at this
        refine ⟨by have := this.1; omega, ?_⟩
        have e1 : j - i = (j - (i + 1)) + 1 := by have := this.1; omega
        simp only [e1, List.modify_succ_cons]
        exact Ents.cons hk hv this.2

theorem Ents.del {α : Type} {enc : α → Value} (o t : Int) : ∀ {es : List MapEntry} {l : Pl α} (i : Nat), Ents enc es l →
    match findE es (key2 o t) i with
    | some (j, _) => i ≤ j ∧ Ents enc (es.eraseIdx (j - i)) (l.del o t)
    | none => Ents enc es (l.del o t) := by
  intro es l
  induction l generalizing es with
  | nil => intro i h; rw [h.nil_iff]; simp [findE, Pl.del, Ents]
  | cons p l ih =>
    intro i h
    obtain ⟨e, r, rfl, hk, hv, hr⟩ := h.cons_inv
    unfold findE Pl.del
    rw [hk]
    by_cases hs : p.1 = o ∧ p.2.1 = t
    · rw [if_pos ((same_iff _ _ _ _).2 hs), if_pos hs]
      refine ⟨Nat.le_refl _, ?_⟩
      simpa using hr
    · rw [if_neg (fun x => hs ((same_iff _ _ _ _).1 x)), if_neg hs]
      have := ih (i + 1) hr
      cases hf : findE r (key2 o t) (i + 1) with
      | none => rw [hf] at this; exact Ents.cons hk hv this
      | some q =>
        obtain ⟨j, v⟩ := q
        rw [hf] at this
        refine ⟨by have := this.1; omega, ?_⟩
        have e1 : j - i = (j - (i + 1)) + 1 := by have := this.1; omega
        simp only [e1, List.eraseIdx_cons_succ]
        exact Ents.cons hk hv this.2

theorem map_born_modify (k v : Value) (es : List MapEntry) (j : Nat) : (es.modify j fun e => { e with key := k, val := v }).map (·.born) = es.map (·.born) := by
  induction es generalizing j with
  | nil => simp
  | cons e r ih => cases j with
    | zero => simp
    | succ j => simp [ih]

theorem Stamps.of_born {es es' : List MapEntry} {cl : Nat} (h : Stamps es cl) (e : es'.map (·.born) = es.map (·.born)) : Stamps es' cl := by
  refine ⟨fun x hx => ?_, by rw [e]; exact h.nd⟩
  have : x.born ∈ es'.map (·.born) := List.mem_map_of_mem hx
  rw [e] at this
  obtain ⟨y, hy, hh⟩ := List.mem_map.1 this
  rw [← hh]; exact h.lt y hy
theorem Stamps.sub {es es' : List MapEntry} {cl : Nat} (h : Stamps es cl) (s : es'.Sublist es) : Stamps es' cl := ⟨fun x hx => h.lt x (s.subset hx), h.nd.sublist (s.map _)⟩
theorem Stamps.push {es : List MapEntry} {cl : Nat} (h : Stamps es cl) (k v : Value) : Stamps (es ++ [{ key := k, val := v, born := cl }]) (cl + 1) := by
  refine ⟨fun x hx => ?_, ?_⟩
  · rcases List.mem_append.1 hx with hx | hx
    · have := h.lt x hx; omega
    · simp at hx; subst hx; simp
  · rw [List.map_append, List.nodup_append]
    refine ⟨h.nd, by simp, ?_⟩
    intro a ha b hb
    simp at hb; subst hb
    obtain ⟨y, hy, rfl⟩ := List.mem_map.1 ha
    have := h.lt y hy; omega

theorem mapGet_rep {α : Type} {enc : α → Value} {es : Array MapEntry} {l : Pl α} (h : Ents enc es.toList l) (o t : Int) : mapGet es (key2 o t) = (l.find o t).map enc := h.find o t 0

theorem mapPut_rep {α : Type} {enc : α → Value} {es : Array MapEntry} {cl : Nat} {l : Pl α} (h : Ents enc es.toList l) (s : Stamps es.toList cl) (o t : Int) (x : α) :
    ∃ es' cl', mapPut es cl (key2 o t) (enc x) = .map es' cl' ∧ Ents enc es'.toList (l.put o t x) ∧ Stamps es'.toList cl' := by
  have := h.put o t x { key := key2 o t, val := enc x, born := cl } rfl rfl 0
  unfold mapPut
  cases hf : findE es.toList (key2 o t) 0 with
  | none =>
    rw [hf] at this
    refine ⟨_, _, rfl, by simpa using this, ?_⟩
    simpa using s.push (key2 o t) (enc x)
  | some q =>
    obtain ⟨j, v⟩ := q
    rw [hf] at this
    refine ⟨_, _, rfl, by simpa using this.2, ?_⟩
    rw [Array.toList_modify]
    exact s.of_born (map_born_modify _ _ _ _)

theorem mapDel_rep {α : Type} {enc : α → Value} {es : Array MapEntry} {cl : Nat} {l : Pl α} (h : Ents enc es.toList l) (s : Stamps es.toList cl) (o t : Int) :
    ∃ es' cl', mapDel es cl (key2 o t) = .map es' cl' ∧ Ents enc es'.toList (l.del o t) ∧ Stamps es'.toList cl' := by
  have := h.del o t 0
  unfold mapDel
  cases hf : findE es.toList (key2 o t) 0 with
  | none =>
    rw [hf] at this
    exact ⟨_, _, rfl, this, s⟩
  | some q =>
    obtain ⟨j, v⟩ := q
    rw [hf] at this
    refine ⟨_, _, rfl, by simpa using this.2, ?_⟩
    rw [Array.toList_eraseIdxIfInBounds]
    exact s.sub (List.eraseIdx_sublist _ _)

/-! ### In memory -/
theorem law122 : KeyLaw Try.prog 122 isKey2 := keyLaw2' (by kernel_rfl)

theorem look_rep {α : Type} {enc : α → Value} {h : PH} {b : Nat} {l : Pl α} (r : MapRep enc h b l) (o t : Int) {K : Option Value → Prop} (k : K ((l.find o t).map enc)) : xLook Try.prog 122 h (some b) (.agg #[.int .i64 o, .int .i64 t]) K := by
  obtain ⟨es, cl, hb, he, hs⟩ := r
  refine .inl ⟨b, es, cl, isKey2, rfl, hb, law122, ⟨o, t, rfl⟩, he.keys, ?_⟩
  rw [show (Value.agg #[.int .i64 o, .int .i64 t]) = key2 o t from rfl, mapGet_rep he]; exact k
theorem put_rep {α : Type} {enc : α → Value} {h : PH} {b : Nat} {l : Pl α} (r : MapRep enc h b l) (o t : Int) (x : α) {K : PH → Prop} {v : Value} (hv : v = enc x) (k : ∀ O, MapRep enc (h.upd b O) b (l.put o t x) → K (h.upd b O)) : xPut Try.prog 122 h (some b) (.agg #[.int .i64 o, .int .i64 t]) v K := by
  obtain ⟨es, cl, hb, he, hs⟩ := r
  refine ⟨b, es, cl, isKey2, rfl, hb, law122, ⟨o, t, rfl⟩, he.keys, k _ ?_⟩
  obtain ⟨es', cl', h1, h2, h3⟩ := mapPut_rep he hs o t x
  refine ⟨es', cl', ?_, h2, h3⟩
  rw [PH.upd_same, hv]; exact congrArg some h1
theorem del_rep {α : Type} {enc : α → Value} {h : PH} {b : Nat} {l : Pl α} (r : MapRep enc h b l) (o t : Int) {K : PH → Prop} (k : ∀ O, MapRep enc (h.upd b O) b (l.del o t) → K (h.upd b O)) : xDel Try.prog 122 h (some b) (.agg #[.int .i64 o, .int .i64 t]) K := by
  obtain ⟨es, cl, hb, he, hs⟩ := r
  refine ⟨b, es, cl, isKey2, rfl, hb, law122, ⟨o, t, rfl⟩, he.keys, k _ ?_⟩
  obtain ⟨es', cl', h1, h2, h3⟩ := mapDel_rep he hs o t
  refine ⟨es', cl', ?_, h2, h3⟩
  rw [PH.upd_same]; exact congrArg some h1
theorem MapRep.of {α : Type} {enc : α → Value} {h h' : PH} {b : Nat} {l : Pl α} (r : MapRep enc h b l) (e : h' b = h b) : MapRep enc h' b l := by
  obtain ⟨es, cl, hb, x⟩ := r; exact ⟨es, cl, e.trans hb, x⟩

end Go.Md

/-
  A model in memory.
-/
namespace Go.Md
open Go Go.Sx Go.Proofs

/-- The blocks of a model: its own, its monitors', its flags', and its two maps'. -/
structure ML where
  m : Nat
  ob : Nat
  fb : Nat
  wb : Nat
  lb : Nat
def ML.all (L : ML) : List Nat := [L.m, L.ob, L.fb, L.wb, L.lb]

def moV (m : Mo) : List Value := [.int .i64 m.owner, .int .i64 m.count, .int .i64 m.hash]
def moArr (l : List Mo) (junk : List Value) : Array Value := ((l.map moV).flatten ++ junk).toArray
def flArr (l : List Bool) (junk : List Value) : Array Value := (l.map Value.bool ++ junk).toArray
def encI (n : Int) : Value := .int .i64 n
def encL (p : Int × Int) : Value := .agg #[.int .i64 p.1, .int .i64 p.2]

structure MRep (h : PH) (L : ML) (s : Ms) : Prop where
  nd : L.all.Nodup
  nm : s.mons.length ≤ 8
  nf : s.flags.length ≤ 8
  cm : ∃ c c', h L.m = some (.cells #[.int .i64 s.most, .slice (some ⟨L.ob, 0, none⟩) s.mons.length c, .slice (some ⟨L.fb, 0, none⟩) s.flags.length c', .map (some L.wb), .map (some L.lb)] 45 (0, 0))
  co : ∃ junk, h L.ob = some (.cells (moArr s.mons junk) 117 (0, 0))
  cf : ∃ junk, h L.fb = some (.cells (flArr s.flags junk) 4 (0, 0))
  cw : MapRep encI h L.wb s.waits
  cl : MapRep encL h L.lb s.left

theorem MRep.of {h h' : PH} {L : ML} {s : Ms} (r : MRep h L s) (e : ∀ b ∈ L.all, h' b = h b) : MRep h' L s := by
  obtain ⟨nd, nm, nf, cm, co, cf, cw, cl⟩ := r
  have e1 := e L.m (by simp [ML.all]); have e2 := e L.ob (by simp [ML.all]); have e3 := e L.fb (by simp [ML.all]); have e4 := e L.wb (by simp [ML.all]); have e5 := e L.lb (by simp [ML.all])
  exact ⟨nd, nm, nf, by rw [e1]; exact cm, by rw [e2]; exact co, by rw [e3]; exact cf, cw.of e4, cl.of e5⟩
theorem MRep.known {h : PH} {L : ML} {s : Ms} (r : MRep h L s) : ∀ b ∈ L.all, ∃ O, h b = some O := by
  obtain ⟨nd, nm, nf, ⟨c, c', cm⟩, ⟨j, co⟩, ⟨j', cf⟩, ⟨es, k, cw, _⟩, ⟨es', k', cl, _⟩⟩ := r
  intro b hb
  simp only [ML.all, List.mem_cons, List.not_mem_nil, or_false] at hb
  rcases hb with rfl | rfl | rfl | rfl | rfl
  · exact ⟨_, cm⟩
  · exact ⟨_, co⟩
  · exact ⟨_, cf⟩
  · exact ⟨_, cw⟩
  · exact ⟨_, cl⟩
theorem MRep.le {h h' : PH} {L : ML} {s : Ms} (r : MRep h L s) (l : h.le h') : MRep h' L s := by
  refine r.of fun b hb => ?_
  obtain ⟨O, hO⟩ := r.known b hb
  rw [hO]; exact l _ _ hO
theorem MRep.ext {h h' : PH} {L : ML} {s : Ms} {S : List Nat} (r : MRep h L s) (l : Ext S h h') (d : ∀ b ∈ L.all, b ∉ S) : MRep h' L s := by
  refine r.of fun b hb => ?_
  obtain ⟨O, hO⟩ := r.known b hb
  rw [hO]; exact l _ _ hO (d b hb)
theorem MRep.new {h : PH} {L : ML} {s : Ms} (r : MRep h L s) {b : Nat} {O : Obj} (n : h b = none) : MRep (h.upd b O) L s := r.le (PH.le_upd n)
/-- A new block is none of its. -/
theorem MRep.off {h : PH} {L : ML} {s : Ms} (r : MRep h L s) {b : Nat} (n : h b = none) : L.m ≠ b ∧ L.ob ≠ b ∧ L.fb ≠ b ∧ L.wb ≠ b ∧ L.lb ≠ b := by
  have : ∀ x ∈ L.all, x ≠ b := by
    intro x hx e
    obtain ⟨O, hO⟩ := r.known x hx
    subst e; rw [n] at hO; cases hO
  exact ⟨this _ (by simp [ML.all]), this _ (by simp [ML.all]), this _ (by simp [ML.all]), this _ (by simp [ML.all]), this _ (by simp [ML.all])⟩
theorem MRep.nes {h : PH} {L : ML} {s : Ms} (r : MRep h L s) : L.m ≠ L.ob ∧ L.m ≠ L.fb ∧ L.m ≠ L.wb ∧ L.m ≠ L.lb ∧ L.ob ≠ L.fb ∧ L.ob ≠ L.wb ∧ L.ob ≠ L.lb ∧ L.fb ≠ L.wb ∧ L.fb ≠ L.lb ∧ L.wb ≠ L.lb := by
  have := r.nd
  simp only [ML.all, List.nodup_cons, List.mem_cons, List.not_mem_nil, or_false, not_or, not_false_eq_true, List.nodup_nil, and_true] at this
  obtain ⟨⟨a, b, c, d⟩, ⟨e, f, g⟩, ⟨i, j⟩, k⟩ := this
  exact ⟨a, b, c, d, e, f, g, i, j, k⟩

/-! ### Monitors and flags in their rows -/
theorem moArr_get {l : List Mo} {junk : List Value} {n : Nat} (h : n < l.length) (k : Nat) (hk : k < 3) : (moArr l junk)[n * 3 + k]? = (moV (l.getD n ⟨-1, 0, 0⟩))[k]? := by
  unfold moArr
  simp only [List.getElem?_toArray]
  induction l generalizing n with
  | nil => simp at h
  | cons a l ih =>
    cases n with
    | zero =>
      simp only [List.map_cons, List.flatten_cons, List.append_assoc, Nat.zero_mul, Nat.zero_add, List.getD_cons_zero]
      rw [List.getElem?_append_left (by simp [moV]; omega)]
    | succ n =>
      simp only [List.map_cons, List.flatten_cons, List.append_assoc, List.getD_cons_succ]
      rw [List.getElem?_append_right (by simp [moV]; omega)]
      rw [show (n + 1) * 3 + k - (moV a).length = n * 3 + k from by simp [moV]; omega]
      exact ih (by simpa using h)
theorem moArr_size {l : List Mo} {junk : List Value} : (moArr l junk).size = l.length * 3 + junk.length := by
  unfold moArr
  simp only [List.size_toArray, List.length_append]
  congr 1
  induction l with
  | nil => rfl
  | cons a l ih => simp only [List.map_cons, List.flatten_cons, List.length_append, List.length_cons, ih]; simp [moV]; omega
theorem moArr_0 {l : List Mo} {junk : List Value} {n : Nat} (h : n < l.length) : (moArr l junk)[n * 3]? = some (.int .i64 (l.getD n ⟨-1, 0, 0⟩).owner) := moArr_get h 0 (by omega)
theorem moArr_1 {l : List Mo} {junk : List Value} {n : Nat} (h : n < l.length) : (moArr l junk)[n * 3 + 1]? = some (.int .i64 (l.getD n ⟨-1, 0, 0⟩).count) := moArr_get h 1 (by omega)
theorem moArr_2 {l : List Mo} {junk : List Value} {n : Nat} (h : n < l.length) : (moArr l junk)[n * 3 + 2]? = some (.int .i64 (l.getD n ⟨-1, 0, 0⟩).hash) := moArr_get h 2 (by omega)
/-- 'setN' of a list. -/
def setL (c : List Value) (off : Nat) : List Value → List Value
  | [] => c
  | v :: vs => setL (c.set off v) (off + 1) vs
theorem setN_list (l : List Value) (o : Nat) (vs : List Value) : setN l.toArray o vs = (setL l o vs).toArray := by
  induction vs generalizing l o with
  | nil => rfl
  | cons v vs ih => simp only [setN, setL, List.setIfInBounds_toArray]; exact ih _ _
theorem setL_skip (a r : List Value) (o : Nat) (vs : List Value) : setL (a ++ r) (a.length + o) vs = a ++ setL r o vs := by
  induction vs generalizing r o with
  | nil => rfl
  | cons v vs ih =>
    simp only [setL]
    rw [List.set_append_right _ _ (by omega), show a.length + o - a.length = o from by omega, show a.length + o + 1 = a.length + (o + 1) from by omega]
    exact ih _ _
theorem moArr_set {l : List Mo} {junk : List Value} {n : Nat} (h : n < l.length) (k : Nat) (vs : List Value) (m : Mo) (hm : setL (moV (l.getD n ⟨-1, 0, 0⟩)) k vs = moV m) (hk : k + vs.length ≤ 3) :
    setN (moArr l junk) (n * 3 + k) vs = moArr (l.set n m) junk := by
  unfold moArr
  rw [setN_list]
  congr 1
  induction l generalizing n with
  | nil => simp at h
  | cons a l ih =>
    have front : ∀ (x r : List Value) (k : Nat) (vs : List Value), k + vs.length ≤ x.length → setL (x ++ r) k vs = setL x k vs ++ r := by
      intro x r k vs
      induction vs generalizing x k with
      | nil => intro _; rfl
      | cons v vs ih =>
        intro hl
        simp only [List.length_cons] at hl
        simp only [setL]
        rw [List.set_append_left _ _ (by omega)]
        exact ih _ _ (by simp; omega)
    cases n with
    | zero =>
      simp only [List.map_cons, List.flatten_cons, List.append_assoc, List.set_cons_zero]
      simp only [List.getD_cons_zero] at hm
      rw [show 0 * 3 + k = k from by omega, front (moV a) _ k vs (by simp [moV]; omega), hm]
    | succ n =>
      simp only [List.map_cons, List.flatten_cons, List.append_assoc, List.set_cons_succ]
      simp only [List.getD_cons_succ] at hm
      rw [show (n + 1) * 3 + k = (moV a).length + (n * 3 + k) from by simp [moV]; omega, setL_skip]
      rw [ih (by simpa using h) hm]
theorem flArr_get {l : List Bool} {junk : List Value} {n : Nat} (h : n < l.length) : (flArr l junk)[n]? = some (.bool (l.getD n false)) := by
  unfold flArr
  simp [List.getElem?_append_left, h]
theorem flArr_size {l : List Bool} {junk : List Value} : (flArr l junk).size = l.length + junk.length := by simp [flArr]
theorem flArr_set {l : List Bool} {junk : List Value} {n : Nat} (h : n < l.length) (b : Bool) : setN (flArr l junk) n [.bool b] = flArr (l.set n b) junk := by
  simp only [setN, flArr, List.setIfInBounds_toArray]
  rw [List.set_append_left _ _ (by simpa using h), List.map_set]

end Go.Md

/-
  Maps of places: no place stands twice; what is left of a walk over one.
-/
set_option linter.unusedSimpArgs false
set_option linter.unusedVariables false
namespace Go.Md
open Go Go.Sx Go.Proofs

/-! ### Maps -/
/-- No place stands twice. -/
def Pl.Once {α : Type} (l : Pl α) : Prop := (l.map fun p => (p.1, p.2.1)).Nodup

theorem Pl.find_mem {α : Type} {l : Pl α} (o : Pl.Once l) {p : Int × Int × α} (hp : p ∈ l) : l.find p.1 p.2.1 = some p.2.2 := by
  induction l with
  | nil => cases hp
  | cons q l ih =>
    unfold Pl.Once at o
    simp only [List.map_cons, List.nodup_cons, List.mem_map, not_exists, not_and] at o
    unfold Pl.find
    rcases List.mem_cons.1 hp with rfl | hp
    · rw [List.find?_cons_of_pos (by simp)]; rfl
    · rw [List.find?_cons_of_neg]
      · exact ih o.2 hp
      · intro e
        simp only [Bool.and_eq_true, beq_iff_eq] at e
        exact o.1 p hp (by rw [← e.1, ← e.2])

theorem Stamps.find {es : List MapEntry} {cl : Nat} (s : Stamps es cl) {e : MapEntry} (he : e ∈ es) : es.find? (fun x => x.born == e.born) = some e := by
  have nd := s.nd
  clear s
  induction es with
  | nil => cases he
  | cons x r ih =>
    simp only [List.map_cons, List.nodup_cons, List.mem_map, not_exists, not_and] at nd
    rcases List.mem_cons.1 he with rfl | he
    · rw [List.find?_cons_of_pos (by simp)]
    · rw [List.find?_cons_of_neg]
      · exact ih he nd.2
      · intro hh
        simp only [beq_iff_eq] at hh
        exact nd.1 e he hh.symm

/-- What is left of a walk over a map. -/
def leftOf (es : List MapEntry) (seen : Array Nat) : Nat := (es.filter fun e => !seen.contains e.born).length
theorem left_push {es : List MapEntry} {seen : Array Nat} {e : MapEntry} (he : e ∈ es) (hs : seen.contains e.born = false) : leftOf es (seen.push e.born) < leftOf es seen := by
  unfold leftOf
  have sub : ∀ (l : List MapEntry), (l.filter fun x => !(seen.push e.born).contains x.born).length ≤ (l.filter fun x => !seen.contains x.born).length := by
    intro l
    induction l with
    | nil => simp
    | cons x l ih =>
      simp only [List.filter_cons]
      by_cases h : seen.contains x.born = true
      · have : (seen.push e.born).contains x.born = true := by
          simp at h ⊢; exact .inl h
        simp only [h, this, Bool.not_true, Bool.false_eq_true, if_false]; exact ih
      · have h : seen.contains x.born = false := by simpa using h
        simp only [h, Bool.not_false, if_true]
        split
        · simp only [List.length_cons]; omega
        · simp only [List.length_cons]; omega
  induction es with
  | nil => cases he
  | cons x l ih =>
    simp only [List.filter_cons]
    rcases List.mem_cons.1 he with rfl | he
    · have : (seen.push e.born).contains e.born = true := by simp
      simp only [hs, this, Bool.not_true, Bool.not_false, Bool.false_eq_true, if_false, if_true, List.length_cons]
      have := sub l
      omega
    · have := ih he
      by_cases h : seen.contains x.born = true
      · have h2 : (seen.push e.born).contains x.born = true := by
          simp at h ⊢; exact .inl h
        simp only [h, h2, Bool.not_true, Bool.false_eq_true, if_false]; exact this
      · have h : seen.contains x.born = false := by simpa using h
        simp only [h, Bool.not_false, if_true]
        split
        · simp only [List.length_cons]; omega
        · simp only [List.length_cons]; omega

/-- Who is there of what stands in memory. -/
theorem Ents.mem {α : Type} {enc : α → Value} {es : List MapEntry} {l : Pl α} (h : Ents enc es l) {e : MapEntry} (he : e ∈ es) : ∃ p ∈ l, e.key = key2 p.1 p.2.1 ∧ e.val = enc p.2.2 := by
  have : (e.key, e.val) ∈ es.map (fun e => (MapEntry.key e, MapEntry.val e)) := List.mem_map_of_mem he
  rw [h] at this
  obtain ⟨p, hp, hh⟩ := List.mem_map.1 this
  simp only [Prod.mk.injEq] at hh
  exact ⟨p, hp, hh.1.symm, hh.2.symm⟩

theorem Stamps.all {es : Array MapEntry} {cl : Nat} (s : Stamps es.toList cl) (hne : es.isEmpty = false) : es.all (fun e => decide (e.born ≥ cl)) = false := by
  obtain ⟨l⟩ := es
  cases l with
  | nil => cases hne
  | cons e r =>
    have := s.lt e (List.mem_cons_self ..)
    simp only [List.all_toArray, List.all_cons, Bool.and_eq_false_iff, decide_eq_false_iff_not]
    left; omega

theorem back_push (a : Array Nat) (x : Nat) : (a.push x).back? = some x := by simp

/-- No place stands twice in a model. -/
structure Ms.Once (s : Ms) : Prop where
  w : Pl.Once s.waits
  l : Pl.Once s.left

theorem Pl.once_put {α : Type} {l : Pl α} (h : Pl.Once l) (o t : Int) (x : α) : Pl.Once (l.put o t x) := by
  have key : ∀ (l : Pl α), (l.put o t x).map (fun p => (p.1, p.2.1)) = if (o, t) ∈ l.map (fun p => (p.1, p.2.1)) then l.map (fun p => (p.1, p.2.1)) else l.map (fun p => (p.1, p.2.1)) ++ [(o, t)] := by
    intro l
    induction l with
    | nil => simp [Pl.put]
    | cons p l ih =>
      unfold Pl.put
      by_cases hp : p.1 = o ∧ p.2.1 = t
      · rw [if_pos hp]
        obtain ⟨h1, h2⟩ := hp
        simp [← h1, ← h2]
      · rw [if_neg hp]
        simp only [List.map_cons, ih, List.mem_cons]
        have : ¬(o, t) = (p.1, p.2.1) := fun e => hp (by simp only [Prod.mk.injEq] at e; exact ⟨e.1.symm, e.2.symm⟩)
        by_cases hm : (o, t) ∈ l.map (fun p => (p.1, p.2.1))
        · simp only [hm, or_true, if_true]
        · simp only [this, hm, or_false, if_false, List.cons_append]
  unfold Pl.Once at h ⊢
  rw [key]
  split
  · exact h
  · rename_i hm
    rw [List.nodup_append]
    refine ⟨h, by simp, ?_⟩
    intro a ha b hb
    simp only [List.mem_singleton] at hb
    subst hb
    exact fun e => hm (e ▸ ha)
theorem Pl.del_sub {α : Type} (l : Pl α) (o t : Int) : (l.del o t).Sublist l := by
  induction l with
  | nil => exact .slnil
  | cons p l ih =>
    unfold Pl.del
    split
    · exact List.sublist_cons_self _ _
    · exact ih.cons_cons _
theorem Pl.once_del {α : Type} {l : Pl α} (h : Pl.Once l) (o t : Int) : Pl.Once (l.del o t) := by
  unfold Pl.Once at h ⊢
  exact h.sublist ((Pl.del_sub l o t).map _)


/-- A list that stands once in another one is no longer. -/
theorem nodup_le {α : Type} : ∀ {l m : List α}, l.Nodup → (∀ x ∈ l, x ∈ m) → l.length ≤ m.length := by
  classical
  intro l
  induction l with
  | nil => intro m _ _; simp
  | cons a l ih =>
    intro m hn hs
    have ha := hs a (List.mem_cons_self ..)
    simp only [List.nodup_cons] at hn
    have := ih (m := m.erase a) hn.2 fun x hx => by
      have hne : x ≠ a := fun e => hn.1 (e ▸ hx)
      exact (List.mem_erase_of_ne hne).2 (hs x (List.mem_cons_of_mem _ hx))
    rw [List.length_erase_of_mem ha] at this
    have hp : 0 < m.length := List.length_pos_of_mem ha
    simp only [List.length_cons]
    omega
/-- Places of eight objects and eight threads. -/
def inRng {α : Type} (l : Pl α) : Prop := ∀ p ∈ l, (0 ≤ p.1 ∧ p.1 < 8) ∧ (0 ≤ p.2.1 ∧ p.2.1 < 8)
theorem Pl.once_le {α : Type} {l : Pl α} (h : Pl.Once l) (r : inRng l) : l.length ≤ 64 := by
  have hn : (l.map fun p => (p.1 * 8 + p.2.1).toNat).Nodup := by
    unfold Pl.Once at h
    induction l with
    | nil => simp
    | cons p l ih =>
      simp only [List.map_cons, List.nodup_cons, List.mem_map, not_exists, not_and] at h ⊢
      refine ⟨fun q hq e => h.1 q hq ?_, ih h.2 (fun q hq => r q (List.mem_cons_of_mem _ hq))⟩
      have h1 := r p (List.mem_cons_self ..)
      have h2 := r q (List.mem_cons_of_mem _ hq)
      have e1 : q.1 = p.1 := by omega
      have e2 : q.2.1 = p.2.1 := by omega
      rw [e1, e2]
  have := nodup_le (m := List.range 64) hn fun x hx => by
    obtain ⟨p, hp, rfl⟩ := List.mem_map.1 hx
    have h1 := r p hp
    simp only [List.mem_range]
    omega
  simpa using this

end Go.Md

/-
  What transitions leave as it was.
-/
set_option linter.unusedSimpArgs false
set_option linter.unusedVariables false
namespace Go.Md
open Go

/-- Why one left: by a Wake, by the time, by an interrupt. -/
def whyOk (l : Pl (Int × Int)) : Prop := ∀ p ∈ l, p.2.2.2 = 0 ∨ p.2.2.2 = 12 ∨ p.2.2.2 = 13
structure Ms.Ok (s : Ms) : Prop where
  once : s.Once
  why : whyOk s.left
  nm : s.mons.length ≤ 8
  nf : s.flags.length ≤ 8
  rw : inRng s.waits
  rl : inRng s.left
theorem Ms.Ok.few {s : Ms} (k : s.Ok) : s.waits.length ≤ 64 := Pl.once_le k.once.w k.rw
theorem Ms.Ok.few' {s : Ms} (k : s.Ok) : s.left.length ≤ 64 := Pl.once_le k.once.l k.rl

theorem Pl.mem_put {α : Type} {l : Pl α} {o t : Int} {x : α} {p : Int × Int × α} (h : p ∈ l.put o t x) : p ∈ l ∨ p = (o, t, x) := by
  induction l with
  | nil => simp [Pl.put] at h; exact .inr h
  | cons q l ih =>
    unfold Pl.put at h
    split at h
    · rcases List.mem_cons.1 h with h | h
      · exact .inr h
      · exact .inl (List.mem_cons_of_mem _ h)
    · rcases List.mem_cons.1 h with h | h
      · exact .inl (h ▸ List.mem_cons_self ..)
      · rcases ih h with h | h
        · exact .inl (List.mem_cons_of_mem _ h)
        · exact .inr h
theorem Pl.find_in {α : Type} {l : Pl α} {o t : Int} {x : α} (h : l.find o t = some x) : ∃ p ∈ l, p.2.2 = x := by
  unfold Pl.find at h
  cases hf : List.find? (fun p => p.1 == o && p.2.1 == t) l with
  | none => rw [hf] at h; cases h
  | some p =>
    rw [hf] at h
    simp only [Option.map_some, Option.some.injEq] at h
    exact ⟨p, List.mem_of_find?_eq_some hf, h⟩

theorem Pl.find_key {α : Type} {l : Pl α} {o t : Int} {x : α} (h : l.find o t = some x) : ∃ p ∈ l, p.1 = o ∧ p.2.1 = t := by
  unfold Pl.find at h
  cases hf : List.find? (fun p => p.1 == o && p.2.1 == t) l with
  | none => rw [hf] at h; cases h
  | some p =>
    have := List.find?_some hf
    simp only [Bool.and_eq_true, beq_iff_eq] at this
    exact ⟨p, List.mem_of_find?_eq_some hf, this.1, this.2⟩
theorem inRng_put {α : Type} {l : Pl α} {o t : Int} {x : α} (r : inRng l) (ho : 0 ≤ o ∧ o < 8) (ht : 0 ≤ t ∧ t < 8) : inRng (l.put o t x) := by
  intro p hp
  rcases Pl.mem_put hp with h | h
  · exact r p h
  · subst h; exact ⟨ho, ht⟩
theorem inRng_del {α : Type} {l : Pl α} {o t : Int} (r : inRng l) : inRng (l.del o t) := fun p hp => r p ((Pl.del_sub _ _ _).subset hp)

theorem ok_leave {s s' : Ms} (k : s.Ok) {o t w : Int} (hw : w = 0 ∨ w = 12 ∨ w = 13) (h : s.leave o t w = some s') : s'.Ok := by
  unfold Ms.leave at h
  cases hf : s.waits.find o t with
  | none => rw [hf] at h; cases h
  | some n =>
    rw [hf] at h
    simp only [Option.some.injEq] at h
    subst h
    obtain ⟨q, hq, e1, e2⟩ := Pl.find_key hf
    have hr := k.rw q hq
    rw [e1, e2] at hr
    refine ⟨⟨Pl.once_del k.once.w _ _, Pl.once_put k.once.l _ _ _⟩, fun p hp => ?_, k.nm, k.nf, inRng_del k.rw, inRng_put k.rl hr.1 hr.2⟩
    rcases Pl.mem_put hp with h | h
    · exact k.why p h
    · subst h; exact hw

/-- A transition that is taken, and tells ErrState, ErrOver, ErrOut or ErrBusy, turns nothing; the model stays in order. -/
theorem apply_ok {s s' : Ms} (k : s.Ok) (e : Ev) (hm : s.may e = true) (h : s.apply e = some s') : s'.Ok ∧ (e.err = 9 ∨ e.err = 10 ∨ e.err = 14 ∨ e.err = 11 → s' = s) := by
  have same : ∀ {x : Ms}, some x = some s' → x = s → s'.Ok ∧ (e.err = 9 ∨ e.err = 10 ∨ e.err = 14 ∨ e.err = 11 → s' = s) := by
    intro x hx e1
    simp only [Option.some.injEq] at hx
    subst hx; subst e1; exact ⟨k, fun _ => rfl⟩
  have mons : ∀ {m : List Mo} {f : List Bool}, s' = { s with mons := m, flags := f } → m.length = s.mons.length → f.length = s.flags.length → s'.Ok := by
    intro m f e l1 l2; subst e; exact ⟨⟨k.once.w, k.once.l⟩, k.why, by rw [l1]; exact k.nm, by rw [l2]; exact k.nf, k.rw, k.rl⟩
  have lo : ∀ (o : Int) (m : Mo), (s.setMon o m).mons.length = s.mons.length := fun o m => by simp [Ms.setMon]
  have lf : ∀ (t : Int) (b : Bool), (s.setFlag t b).flags.length = s.flags.length := fun t b => by simp [Ms.setFlag]
  have rng : (0 ≤ e.obj ∧ e.obj < 8) ∧ (0 ≤ e.thread ∧ e.thread < 8) := by
    have h1 := k.nm
    have h2 := k.nf
    simp only [Ms.may, Ms.isThread, Ms.isObj, Bool.and_eq_true, decide_eq_true_eq] at hm
    omega
  unfold Ms.apply at h
  split at h
  · split at h
    · unfold Ms.enter at h
      split at h
      · rename_i he
        split at h
        · cases h
        · simp only [Option.some.injEq] at h
          exact ⟨mons (f := s.flags) h.symm (lo _ _) rfl, fun hx => by omega⟩
      · split at h
        · split at h
          · exact same h rfl
          · cases h
        split at h
        · split at h
          · exact same h rfl
          · cases h
        split at h
        · split at h
          · exact same h rfl
          · cases h
        · cases h
    · cases h
  split at h
  · split at h
    · unfold Ms.exit at h
      split at h
      · split at h
        · cases h
        · exact same h rfl
      · rename_i he
        split at h
        · cases h
        · rename_i hb
          have h0 : e.err = 0 := by simp at hb; exact hb.1
          simp only [Option.some.injEq] at h
          exact ⟨mons (f := s.flags) h.symm (lo _ _) rfl, fun hx => by omega⟩
    · cases h
  split at h
  · split at h
    · unfold Ms.begin at h
      split at h
      · split at h
        · cases h
        · exact same h rfl
      split at h
      · split at h
        · exact same h rfl
        · cases h
      split at h
      · rename_i he
        split at h
        · simp only [Option.some.injEq] at h
          exact ⟨mons (m := s.mons) h.symm rfl (lf _ _), fun hx => by omega⟩
        · cases h
      split at h
      · rename_i he
        split at h
        · simp only [Option.some.injEq] at h
          subst h
          exact ⟨⟨⟨Pl.once_put k.once.w _ _ _, k.once.l⟩, k.why, by rw [lo]; exact k.nm, k.nf, inRng_put k.rw rng.1 rng.2, k.rl⟩, fun hx => by omega⟩
        · cases h
      · cases h
    · cases h
  split at h
  · split at h
    · rename_i hb
      simp only [Bool.and_eq_true, Bool.or_eq_true, beq_iff_eq] at hb
      have hw : e.err = 12 ∨ e.err = 13 := by rcases hb.2 with h | h; exact .inr h; exact .inl h.1
      exact ⟨ok_leave k (.inr hw) h, fun hx => by omega⟩
    · cases h
  split at h
  · split at h
    · unfold Ms.fin at h
      cases hf : s.left.find e.obj e.thread with
      | none => rw [hf] at h; cases h
      | some l =>
        rw [hf] at h
        simp only [] at h
        split at h
        · cases h
        · rename_i hb
          have he : l.2 = e.err := by simp at hb; exact hb.2
          obtain ⟨p, hp, hl⟩ := Pl.find_in hf
          have hw := k.why p hp
          rw [hl, he] at hw
          simp only [Option.some.injEq] at h
          have ok1 : whyOk (s.left.del e.obj e.thread) := fun q hq => k.why q ((Pl.del_sub _ _ _).subset hq)
          refine ⟨?_, fun hx => by omega⟩
          subst h
          split
          · exact ⟨⟨k.once.w, Pl.once_del k.once.l _ _⟩, ok1, by simp [Ms.setFlag, Ms.setMon]; exact k.nm, by simp [Ms.setFlag, Ms.setMon]; exact k.nf, k.rw, inRng_del k.rl⟩
          · exact ⟨⟨k.once.w, Pl.once_del k.once.l _ _⟩, ok1, by simp [Ms.setMon]; exact k.nm, k.nf, k.rw, inRng_del k.rl⟩
    · cases h
  split at h
  · unfold Ms.tell at h
    split at h
    · split at h
      · rename_i hb
        simp only [Bool.and_eq_true, beq_iff_eq] at hb
        exact ⟨ok_leave k (.inl rfl) h, fun hx => by omega⟩
      · cases h
    split at h
    · split at h
      · exact same h rfl
      · cases h
    split at h
    · cases h
    split at h
    · split at h
      · exact same h rfl
      · cases h
    · split at h
      · exact same h rfl
      · cases h
  split at h
  · unfold Ms.hash at h
    split at h
    · split at h
      · exact same h rfl
      · cases h
    · split at h
      · cases h
      · rename_i hb
        have h0 : e.err = 0 := by simp at hb; exact hb.1.1
        simp only [Option.some.injEq] at h
        exact ⟨mons (f := s.flags) h.symm (lo _ _) rfl, fun hx => by omega⟩
  split at h
  · unfold Ms.holds at h
    split at h
    · exact same h rfl
    · cases h
  split at h
  · split at h
    · cases h
    · rename_i hb
      have h0 : e.err = 0 := by simp at hb; exact hb.1
      simp only [Option.some.injEq] at h
      exact ⟨mons (m := s.mons) h.symm rfl (lf _ _), fun hx => by omega⟩
  · cases h

theorem next_ok {s : Ms} (k : s.Ok) (e : Ev) : (s.next e).Ok := by
  unfold Ms.next Ms.step
  split
  · rename_i hm
    cases h : s.apply e with
    | none => exact k
    | some s' => exact (apply_ok k e hm h).1
  · exact k
theorem next_still {s : Ms} (k : s.Ok) (e : Ev) (h : s.code e ≠ 0 ∨ e.err = 9 ∨ e.err = 10 ∨ e.err = 14 ∨ e.err = 11) : s.next e = s := by
  unfold Ms.code at h
  unfold Ms.next Ms.step at *
  split
  · rename_i hm
    rw [if_pos hm] at h
    cases ha : s.apply e with
    | none => rfl
    | some s' =>
      rw [ha] at h
      rcases h with h | h
      · exact absurd rfl h
      · exact (apply_ok k e hm ha).2 h
  · rfl
theorem new_ok (t o c : Int) (ht : t ≤ 8) (ho : o ≤ 8) : (Ms.new t o c).Ok := ⟨⟨by simp [Ms.new, Pl.Once], by simp [Ms.new, Pl.Once]⟩, by simp [Ms.new, whyOk], by simp [Ms.new]; omega, by simp [Ms.new]; omega, by simp [Ms.new, inRng], by simp [Ms.new, inRng]⟩

/-- An interrupted Begin turns the flag alone. -/
theorem begin_intr {s : Ms} {e : Ev} (hc : s.code e = 0) (hk : e.kind = 4) (he : e.err = 12) : s.isThread e.thread = true ∧ s.flag e.thread = true ∧ s.next e = s.setFlag e.thread false := by
  unfold Ms.code at hc
  unfold Ms.next
  cases hs : s.step e with
  | none => rw [hs] at hc; simp at hc
  | some s' =>
    have hs' := hs
    unfold Ms.step at hs
    split at hs
    · rename_i hm
      have hth : s.isThread e.thread = true := by
        simp only [Ms.may, Bool.and_eq_true] at hm; exact hm.1.1
      unfold Ms.apply at hs
      rw [if_neg (by omega), if_neg (by omega), if_pos hk] at hs
      split at hs
      · unfold Ms.begin at hs
        rw [if_neg (by omega), if_neg (by omega), if_pos he] at hs
        split at hs
        · rename_i hb
          simp only [Bool.and_eq_true] at hb
          simp only [Option.some.injEq] at hs
          exact ⟨hth, hb.2, by simp [hs]⟩
        · cases hs
      · cases hs
    · cases hs

end Go.Md

/-
  The document's model as plain values; that it goes with the program's.
-/
set_option linter.unusedSimpArgs false
set_option linter.unusedVariables false
namespace Go.Rf
open Go Go.Md

structure Pc where
  waits : Int
  left : Int
  why : Int
def pc0 : Pc := ⟨0, 0, 0⟩
structure Rm where
  n : Int
  m : Int
  most : Int
  owner : List Int
  count : List Int
  hash : List Int
  flag : List Bool
  pl : List Pc
structure Rm.Wf (R : Rm) : Prop where
  o : R.owner.length = 8
  c : R.count.length = 8
  h : R.hash.length = 8
  f : R.flag.length = 8
  p : R.pl.length = 64

namespace Rm
def ow (R : Rm) (o : Int) : Int := R.owner.getD o.toNat 0
def ct (R : Rm) (o : Int) : Int := R.count.getD o.toNat 0
def hs (R : Rm) (o : Int) : Int := R.hash.getD o.toNat 0
def fl (R : Rm) (t : Int) : Bool := R.flag.getD t.toNat false
def at' (R : Rm) (o t : Int) : Pc := R.pl.getD (o.toNat * 8 + t.toNat) pc0
def setOw (R : Rm) (o v : Int) : Rm := { R with owner := R.owner.set o.toNat v }
def setCt (R : Rm) (o v : Int) : Rm := { R with count := R.count.set o.toNat v }
def setHs (R : Rm) (o v : Int) : Rm := { R with hash := R.hash.set o.toNat v }
def setFl (R : Rm) (t : Int) (b : Bool) : Rm := { R with flag := R.flag.set t.toNat b }
def setAt (R : Rm) (o t : Int) (p : Pc) : Rm := { R with pl := R.pl.set (o.toNat * 8 + t.toNat) p }
def is (R : Rm) (t : Int) : Bool := decide (t ≥ 0) && decide (t < R.n)
def none' (R : Rm) (o : Int) : Bool := (List.range R.n.toNat).all fun t => !decide ((R.at' o t).waits > 0)
def gone (R : Rm) (t : Int) : Bool := (List.range R.m.toNat).any fun o => decide ((R.at' o t).waits > 0) || decide ((R.at' o t).left > 0)
def w1 (t : Int) : Int := IntKind.wrap .i64 (t + 1)
def other (R : Rm) (e : Ev) : Bool := R.ow e.obj != 0 && R.ow e.obj != w1 e.thread
def enter (R : Rm) (e : Ev) : Rm × Bool :=
  if e.err = 0 then (if (R.other e || decide (R.ct e.obj ≥ R.most)) = true then (R, false) else ((R.setOw e.obj (w1 e.thread)).setCt e.obj (IntKind.wrap .i64 (R.ct e.obj + 1)), true))
  else if e.err = 10 then (R, R.ow e.obj == w1 e.thread && decide (R.ct e.obj ≥ R.most))
  else if e.err = 11 then (R, e.kind == 1 && R.other e)
  else if e.err = 14 then (R, e.kind == 2 && R.other e)
  else (R, false)
def owns (R : Rm) (e : Ev) : Bool := R.ow e.obj == w1 e.thread
def wait (R : Rm) (e : Ev) : Rm × Bool :=
  if e.kind = 4 then
    (if e.err = 9 then (R, !R.owns e)
     else if e.err = 12 then (if (R.owns e && R.fl e.thread) = true then (R.setFl e.thread false, true) else (R, false))
     else if e.err = 11 then (R, R.owns e)
     else if e.err = 0 then (if R.owns e = true then ((((R.setAt e.obj e.thread { R.at' e.obj e.thread with waits := R.ct e.obj }).setOw e.obj 0).setCt e.obj 0), true) else (R, false))
     else (R, false))
  else if e.kind = 5 then
    (if e.err = 13 ∨ e.err = 12 then (if ((R.at' e.obj e.thread).waits == 0 || e.err == 12 && !R.fl e.thread) = true then (R, false) else (R.setAt e.obj e.thread ⟨0, (R.at' e.obj e.thread).waits, e.err⟩, true))
     else (R, false))
  else if e.kind = 6 then
    (if e.err = 0 ∨ e.err = 13 ∨ e.err = 12 then (if (R.ow e.obj != 0 || (R.at' e.obj e.thread).left == 0 || (R.at' e.obj e.thread).why != e.err) = true then (R, false)
      else
        let R1 := ((R.setAt e.obj e.thread pc0).setOw e.obj (w1 e.thread)).setCt e.obj (R.at' e.obj e.thread).left
        (if e.err = 12 then R1.setFl e.thread false else R1, true))
     else (R, false))
  else (R, false)
def tell (R : Rm) (e : Ev) : Rm × Bool :=
  if e.kind = 7 then (if (e.err != 0 || !R.owns e || !R.is e.arg || (R.at' e.obj e.arg).waits == 0) = true then (R, false) else (R.setAt e.obj e.arg ⟨0, (R.at' e.obj e.arg).waits, 0⟩, true))
  else if e.kind = 8 ∧ e.err = 9 then (R, !R.owns e && e.arg == -1)
  else if e.kind = 8 ∧ e.err = 0 then (R, R.owns e && (R.is e.arg || e.arg == -1 && R.none' e.obj))
  else if e.kind = 9 ∧ e.err = 9 then (R, !R.owns e && e.arg == 0)
  else if e.kind = 9 ∧ e.err = 0 then (R, R.owns e && (e.arg == 0 && R.none' e.obj))
  else (R, false)
def ask (R : Rm) (e : Ev) : Rm × Bool :=
  if e.kind = 10 ∧ e.err = 11 then (R, R.ow e.obj != 0 && e.arg == 0)
  else if e.err ≠ 0 then (R, false)
  else if e.kind = 10 then
    (let R1 := if (R.hs e.obj == 0 && decide (e.arg ≥ 1) && decide (e.arg ≤ 2147483647)) = true then R.setHs e.obj e.arg else R
     (R1, R1.hs e.obj != 0 && R1.hs e.obj == e.arg))
  else if e.kind = 11 then (R, e.arg == if R.owns e = true then 1 else 0)
  else if R.is e.arg = true then (R.setFl e.arg true, true) else (R, false)
def may (R : Rm) (e : Ev) : Bool := !(!R.is e.thread || decide (e.obj < 0) || decide (e.obj ≥ R.m) || e.kind != 5 && e.kind != 6 && R.gone e.thread)
def act (R : Rm) (e : Ev) : Rm × Bool :=
  if e.kind = 1 ∨ e.kind = 2 then ((R.enter e).1, (R.enter e).2 && e.arg == 0)
  else if e.kind = 3 then
    (let ok := e.arg == 0 && (e.err == 0 && R.owns e || e.err == 9 && !R.owns e)
     (if (ok && e.err == 0) = true then
        (let R1 := R.setCt e.obj (IntKind.wrap .i64 (R.ct e.obj - 1))
         if R1.ct e.obj = 0 then R1.setOw e.obj 0 else R1)
      else R, ok))
  else if e.kind = 4 ∨ e.kind = 5 ∨ e.kind = 6 then (if (decide (e.err ≥ 0) && decide (e.err < 100)) = true then ((R.wait e).1, (R.wait e).2 && e.arg == 0) else (R, false))
  else if e.kind = 7 ∨ e.kind = 8 ∨ e.kind = 9 then R.tell e
  else if e.kind = 10 ∨ e.kind = 11 ∨ e.kind = 12 then R.ask e
  else (R, false)
/-- A transition of the document's model, and what it tells. -/
def apply (R : Rm) (e : Ev) : Rm × Int := if (!R.may e || !(R.act e).2) = true then (R, 15) else ((R.act e).1, 0)
end Rm
def Rm.new (n m most : Int) : Rm := ⟨n, m, most, List.replicate 8 0, List.replicate 8 0, List.replicate 8 0, List.replicate 8 false, List.replicate 64 pc0⟩

end Go.Rf

/-
  The document's model goes with the program's: what goes with what.
-/
set_option linter.unusedSimpArgs false
set_option linter.unusedVariables false
namespace Go.Rf
open Go Go.Md

theorem getD_set' {α : Type} (l : List α) (i j : Nat) (x d : α) (h : i < l.length) : (l.set i x).getD j d = if i = j then x else l.getD j d := by
  simp only [List.getD_eq_getElem?_getD, List.getElem?_set]
  by_cases e : i = j
  · subst e; simp [h]
  · simp [e]
theorem find_put {α : Type} (l : Pl α) (o t : Int) (v : α) (a b : Int) : (l.put o t v).find a b = if a = o ∧ b = t then some v else l.find a b := by
  unfold Pl.find
  induction l with
  | nil =>
    unfold Pl.put
    by_cases h : a = o ∧ b = t
    · rw [if_pos h, List.find?_cons_of_pos (by simp [h.1, h.2])]; rfl
    · rw [if_neg h, List.find?_cons_of_neg (by simp; intro h1 h2; exact h ⟨h1.symm, h2.symm⟩)]
  | cons p l ih =>
    unfold Pl.put
    by_cases hp : p.1 = o ∧ p.2.1 = t
    · rw [if_pos hp]
      by_cases h : a = o ∧ b = t
      · rw [if_pos h, List.find?_cons_of_pos (by simp [h.1, h.2])]; rfl
      · rw [if_neg h, List.find?_cons_of_neg (by simp; intro h1 h2; exact h ⟨h1.symm, h2.symm⟩)]
        rw [List.find?_cons_of_neg (by simp; intro h1 h2; exact h ⟨h1.symm.trans hp.1, h2.symm.trans hp.2⟩)]
    · rw [if_neg hp]
      by_cases h2 : (p.1 == a && p.2.1 == b) = true
      · simp only [List.find?_cons, h2]
        simp only [Bool.and_eq_true, beq_iff_eq] at h2
        rw [if_neg (fun h => hp ⟨h2.1.trans h.1, h2.2.trans h.2⟩)]
      · have h2 : (p.1 == a && p.2.1 == b) = false := by simpa using h2
        simp only [List.find?_cons, h2]
        exact ih
theorem find_none_of {α : Type} {l : Pl α} {o t : Int} (h : (o, t) ∉ l.map fun p => (p.1, p.2.1)) : l.find o t = none := by
  unfold Pl.find
  have : List.find? (fun p => p.1 == o && p.2.1 == t) l = none := by
    rw [List.find?_eq_none]
    intro p hp hc
    simp only [Bool.and_eq_true, beq_iff_eq] at hc
    exact h (List.mem_map.2 ⟨p, hp, by rw [hc.1, hc.2]⟩)
  rw [this]; rfl
theorem find_del {α : Type} {l : Pl α} (h : Pl.Once l) (o t a b : Int) : (l.del o t).find a b = if a = o ∧ b = t then none else l.find a b := by
  induction l with
  | nil => unfold Pl.del; by_cases e : a = o ∧ b = t <;> simp [e, Pl.find]
  | cons p l ih =>
    unfold Pl.Once at h
    simp only [List.map_cons, List.nodup_cons] at h
    unfold Pl.del
    by_cases hp : p.1 = o ∧ p.2.1 = t
    · rw [if_pos hp]
      by_cases e : a = o ∧ b = t
      · rw [if_pos e, e.1, e.2]
        exact find_none_of (by rw [← hp.1, ← hp.2]; exact h.1)
      · rw [if_neg e]
        unfold Pl.find
        rw [List.find?_cons_of_neg (by simp; intro h1 h2; exact e ⟨h1.symm.trans hp.1, h2.symm.trans hp.2⟩)]
    · rw [if_neg hp]
      have ih := ih h.2
      by_cases h2 : (p.1 == a && p.2.1 == b) = true
      · have h2' := h2
        simp only [Bool.and_eq_true, beq_iff_eq] at h2'
        rw [if_neg (fun hh => hp ⟨h2'.1.trans hh.1, h2'.2.trans hh.2⟩)]
        unfold Pl.find
        simp only [List.find?_cons, h2]
      · unfold Pl.find at ih ⊢
        have h2 : (p.1 == a && p.2.1 == b) = false := by simpa using h2
        simp only [List.find?_cons, h2]
        exact ih

/-- What is so of a model in order. -/
structure Good (s : Ms) : Prop where
  most : 1 ≤ s.most ∧ s.most ≤ 60
  own : ∀ o, s.isObj o = true → -1 ≤ (s.mon o).owner ∧ (s.mon o).owner < s.flags.length ∧ ((s.mon o).owner = -1 → (s.mon o).count = 0) ∧ ((s.mon o).owner ≠ -1 → 1 ≤ (s.mon o).count ∧ (s.mon o).count ≤ s.most) ∧ ((s.mon o).hash = 0 ∨ 1 ≤ (s.mon o).hash ∧ (s.mon o).hash ≤ 2147483647)
  wts : ∀ p ∈ s.waits, s.isObj p.1 = true ∧ s.isThread p.2.1 = true ∧ 1 ≤ p.2.2 ∧ p.2.2 ≤ s.most
  lfs : ∀ p ∈ s.left, s.isObj p.1 = true ∧ s.isThread p.2.1 = true ∧ 1 ≤ p.2.2.1 ∧ p.2.2.1 ≤ s.most
  ex : ∀ o t, s.waits.find o t ≠ none → s.left.find o t = none
structure Sim (R : Rm) (s : Ms) : Prop where
  wf : R.Wf
  ok : s.Ok
  g : Good s
  n : R.n = s.flags.length
  m : R.m = s.mons.length
  most : R.most = s.most
  ow : ∀ o, s.isObj o = true → R.ow o = (s.mon o).owner + 1
  ct : ∀ o, s.isObj o = true → R.ct o = (s.mon o).count
  hs : ∀ o, s.isObj o = true → R.hs o = (s.mon o).hash
  fl : ∀ t, s.isThread t = true → R.fl t = s.flag t
  wt : ∀ o t, s.isObj o = true → s.isThread t = true → (R.at' o t).waits = (s.waits.find o t).getD 0
  lf : ∀ o t, s.isObj o = true → s.isThread t = true → (R.at' o t).left = ((s.left.find o t).map (·.1)).getD 0
  wy : ∀ o t l, s.isObj o = true → s.isThread t = true → s.left.find o t = some l → (R.at' o t).why = l.2

theorem obj_lt {s : Ms} (k : s.Ok) {o : Int} (h : s.isObj o = true) : 0 ≤ o ∧ o.toNat < s.mons.length ∧ o.toNat < 8 := by
  have := k.nm
  simp only [Ms.isObj, Bool.and_eq_true, decide_eq_true_eq] at h
  omega
theorem thr_lt {s : Ms} (k : s.Ok) {t : Int} (h : s.isThread t = true) : 0 ≤ t ∧ t.toNat < s.flags.length ∧ t.toNat < 8 := by
  have := k.nf
  simp only [Ms.isThread, Bool.and_eq_true, decide_eq_true_eq] at h
  omega
theorem mon_set {s : Ms} {o x : Int} {m : Mo} (h : o.toNat < s.mons.length) (h0 : 0 ≤ o) (hx : 0 ≤ x) : (s.setMon o m).mon x = if x = o then m else s.mon x := by
  unfold Ms.mon Ms.setMon
  rw [getD_set' _ _ _ _ _ h]
  by_cases e : x = o
  · subst e; simp
  · rw [if_neg e, if_neg (by omega)]
theorem flag_set {s : Ms} {t x : Int} {b : Bool} (h : t.toNat < s.flags.length) (h0 : 0 ≤ t) (hx : 0 ≤ x) : (s.setFlag t b).flag x = if x = t then b else s.flag x := by
  unfold Ms.flag Ms.setFlag
  rw [getD_set' _ _ _ _ _ h]
  by_cases e : x = t
  · subst e; simp
  · rw [if_neg e, if_neg (by omega)]
theorem isObj_setMon (s : Ms) (o x : Int) (m : Mo) : (s.setMon o m).isObj x = s.isObj x := by simp [Ms.isObj, Ms.setMon]
theorem isThread_setMon (s : Ms) (o x : Int) (m : Mo) : (s.setMon o m).isThread x = s.isThread x := rfl
theorem isObj_setFlag (s : Ms) (o x : Int) (m : Bool) : (s.setFlag o m).isObj x = s.isObj x := rfl
theorem isThread_setFlag (s : Ms) (o x : Int) (m : Bool) : (s.setFlag o m).isThread x = s.isThread x := by simp [Ms.isThread, Ms.setFlag]

theorem ow_set {R : Rm} (w : R.Wf) {o x v : Int} (h0 : 0 ≤ o) (h8 : o.toNat < 8) (hx : 0 ≤ x) : (R.setOw o v).ow x = if x = o then v else R.ow x := by
  unfold Rm.ow Rm.setOw
  rw [getD_set' _ _ _ _ _ (by rw [w.o]; exact h8)]
  by_cases e : x = o
  · subst e; simp
  · rw [if_neg e, if_neg (by omega)]
theorem ct_set {R : Rm} (w : R.Wf) {o x v : Int} (h0 : 0 ≤ o) (h8 : o.toNat < 8) (hx : 0 ≤ x) : (R.setCt o v).ct x = if x = o then v else R.ct x := by
  unfold Rm.ct Rm.setCt
  rw [getD_set' _ _ _ _ _ (by rw [w.c]; exact h8)]
  by_cases e : x = o
  · subst e; simp
  · rw [if_neg e, if_neg (by omega)]
theorem hs_set {R : Rm} (w : R.Wf) {o x v : Int} (h0 : 0 ≤ o) (h8 : o.toNat < 8) (hx : 0 ≤ x) : (R.setHs o v).hs x = if x = o then v else R.hs x := by
  unfold Rm.hs Rm.setHs
  rw [getD_set' _ _ _ _ _ (by rw [w.h]; exact h8)]
  by_cases e : x = o
  · subst e; simp
  · rw [if_neg e, if_neg (by omega)]
theorem fl_set {R : Rm} (w : R.Wf) {t x : Int} {b : Bool} (h0 : 0 ≤ t) (h8 : t.toNat < 8) (hx : 0 ≤ x) : (R.setFl t b).fl x = if x = t then b else R.fl x := by
  unfold Rm.fl Rm.setFl
  rw [getD_set' _ _ _ _ _ (by rw [w.f]; exact h8)]
  by_cases e : x = t
  · subst e; simp
  · rw [if_neg e, if_neg (by omega)]
theorem at_set {R : Rm} (w : R.Wf) {o t x y : Int} {p : Pc} (h0 : 0 ≤ o) (h8 : o.toNat < 8) (t0 : 0 ≤ t) (t8 : t.toNat < 8) (hx : 0 ≤ x) (hy : 0 ≤ y) (y8 : y.toNat < 8) : (R.setAt o t p).at' x y = if x = o ∧ y = t then p else R.at' x y := by
  unfold Rm.at' Rm.setAt
  rw [getD_set' _ _ _ _ _ (by rw [w.p]; omega)]
  by_cases e : x = o ∧ y = t
  · rw [if_pos e, e.1, e.2]; simp
  · rw [if_neg e, if_neg (by omega)]
theorem Rm.Wf.setOw {R : Rm} (w : R.Wf) (o v : Int) : (R.setOw o v).Wf := ⟨by simp [Rm.setOw, w.o], w.c, w.h, w.f, w.p⟩
theorem Rm.Wf.setCt {R : Rm} (w : R.Wf) (o v : Int) : (R.setCt o v).Wf := ⟨w.o, by simp [Rm.setCt, w.c], w.h, w.f, w.p⟩
theorem Rm.Wf.setHs {R : Rm} (w : R.Wf) (o v : Int) : (R.setHs o v).Wf := ⟨w.o, w.c, by simp [Rm.setHs, w.h], w.f, w.p⟩
theorem Rm.Wf.setFl {R : Rm} (w : R.Wf) (o : Int) (v : Bool) : (R.setFl o v).Wf := ⟨w.o, w.c, w.h, by simp [Rm.setFl, w.f], w.p⟩
theorem Rm.Wf.setAt {R : Rm} (w : R.Wf) (o t : Int) (v : Pc) : (R.setAt o t v).Wf := ⟨w.o, w.c, w.h, w.f, by simp [Rm.setAt, w.p]⟩

/-- A monitor turns. -/
theorem sim_mon {R R' : Rm} {s : Ms} {o : Int} {m' : Mo} (S : Sim R s) (ok : (s.setMon o m').Ok) (ho : s.isObj o = true) (wf : R'.Wf) (hn : R'.n = R.n) (hm : R'.m = R.m) (hmost : R'.most = R.most) (hfl : R'.flag = R.flag) (hpl : R'.pl = R.pl)
    (ow' : ∀ x, 0 ≤ x → R'.ow x = if x = o then m'.owner + 1 else R.ow x) (ct' : ∀ x, 0 ≤ x → R'.ct x = if x = o then m'.count else R.ct x) (hs' : ∀ x, 0 ≤ x → R'.hs x = if x = o then m'.hash else R.hs x)
    (g : -1 ≤ m'.owner ∧ m'.owner < s.flags.length ∧ (m'.owner = -1 → m'.count = 0) ∧ (m'.owner ≠ -1 → 1 ≤ m'.count ∧ m'.count ≤ s.most) ∧ (m'.hash = 0 ∨ 1 ≤ m'.hash ∧ m'.hash ≤ 2147483647)) : Sim R' (s.setMon o m') := by
  obtain ⟨o0, o1, o8⟩ := obj_lt S.ok ho
  have mset := fun x (hx : 0 ≤ x) => mon_set (s := s) (m := m') o1 o0 hx
  refine ⟨wf, ok, ⟨S.g.most, ?_, ?_, ?_, S.g.ex⟩, hn.trans S.n, by rw [hm, S.m]; simp [Ms.setMon], hmost.trans S.most, ?_, ?_, ?_, ?_, ?_, ?_, ?_⟩
  · intro x hx
    rw [isObj_setMon] at hx
    obtain ⟨x0, x1, x8⟩ := obj_lt S.ok hx
    rw [mset x x0]
    split
    · exact g
    · exact S.g.own x hx
  · intro p hp
    rw [isObj_setMon, isThread_setMon]
    exact S.g.wts p hp
  · intro p hp
    rw [isObj_setMon, isThread_setMon]
    exact S.g.lfs p hp
  · intro x hx
    rw [isObj_setMon] at hx
    obtain ⟨x0, x1, x8⟩ := obj_lt S.ok hx
    rw [mset x x0, ow' x x0]
    split
    · rfl
    · exact S.ow x hx
  · intro x hx
    rw [isObj_setMon] at hx
    obtain ⟨x0, x1, x8⟩ := obj_lt S.ok hx
    rw [mset x x0, ct' x x0]
    split
    · rfl
    · exact S.ct x hx
  · intro x hx
    rw [isObj_setMon] at hx
    obtain ⟨x0, x1, x8⟩ := obj_lt S.ok hx
    rw [mset x x0, hs' x x0]
    split
    · rfl
    · exact S.hs x hx
  · intro t ht
    have : R'.fl t = R.fl t := by unfold Rm.fl; rw [hfl]
    rw [this]; exact S.fl t ht
  · intro x t hx ht
    rw [isObj_setMon] at hx
    have : R'.at' x t = R.at' x t := by unfold Rm.at'; rw [hpl]
    rw [this]; exact S.wt x t hx ht
  · intro x t hx ht
    rw [isObj_setMon] at hx
    have : R'.at' x t = R.at' x t := by unfold Rm.at'; rw [hpl]
    rw [this]; exact S.lf x t hx ht
  · intro x t l hx ht hl
    rw [isObj_setMon] at hx
    have : R'.at' x t = R.at' x t := by unfold Rm.at'; rw [hpl]
    rw [this]; exact S.wy x t l hx ht hl

theorem sim_flag {R : Rm} {s : Ms} {t : Int} {b : Bool} (S : Sim R s) (ht : s.isThread t = true) : Sim (R.setFl t b) (s.setFlag t b) := by
  obtain ⟨t0, t1, t8⟩ := thr_lt S.ok ht
  have fset := fun x (hx : 0 ≤ x) => flag_set (s := s) (b := b) t1 t0 hx
  refine ⟨S.wf.setFl t b, ⟨⟨S.ok.once.w, S.ok.once.l⟩, S.ok.why, S.ok.nm, by simp [Ms.setFlag]; exact S.ok.nf, S.ok.rw, S.ok.rl⟩, ⟨S.g.most, ?_, ?_, ?_, S.g.ex⟩, by simp [Ms.setFlag, Rm.setFl, S.n], S.m, S.most, S.ow, S.ct, S.hs, ?_, ?_, ?_, ?_⟩
  · intro o ho
    have := S.g.own o ho
    simpa [Ms.setFlag, Ms.mon] using this
  · intro p hp
    rw [isObj_setFlag, isThread_setFlag]; exact S.g.wts p hp
  · intro p hp
    rw [isObj_setFlag, isThread_setFlag]; exact S.g.lfs p hp
  · intro x hx
    rw [isThread_setFlag] at hx
    obtain ⟨x0, x1, x8⟩ := thr_lt S.ok hx
    rw [fset x x0, fl_set S.wf t0 t8 x0]
    split
    · rfl
    · exact S.fl x hx
  · intro o x ho hx
    rw [isThread_setFlag] at hx
    exact S.wt o x ho hx
  · intro o x ho hx
    rw [isThread_setFlag] at hx
    exact S.lf o x ho hx
  · intro o x l ho hx hl
    rw [isThread_setFlag] at hx
    exact S.wy o x l ho hx hl

end Go.Rf

/-
  SX, part 10: structs of integers, one in another one, are compared.
-/
namespace Go.Sx
open Go

mutual
/-- How many cells, all integers, a type has. -/
def intCells (P : Program) : Nat → TypeId → Option Nat
  | 0, _ => none
  | d + 1, t =>
    match P.underlying t with
    | some (.int _) => some 1
    | some (.struct fs) => (match P.stoodInHeld t with
      | true => none
      | false => (match intFlds P d fs.toList 0 with
        | some n => if Nat.beq (P.cellsOf t) n && !Nat.beq n 0 then some n else none
        | none => none))
    | _ => none
def intFlds (P : Program) : Nat → List Field → Nat → Option Nat
  | _, [], o => some o
  | 0, _ :: _, _ => none
  | d + 1, f :: fs, o =>
    if f.name != "_" && Nat.beq f.offset o then (match intCells P d f.type with | some n => intFlds P d fs (o + n) | none => none) else none
end

/-- Both have integers there, of the same kind. -/
def bothInt (xs ys : Array Value) (off n : Nat) : Prop := ∀ i, i < n → ∃ k a b, xs[off + i]? = some (.int k a) ∧ ys[off + i]? = some (.int k b)
def sameAt (xs ys : Array Value) (off n : Nat) : Prop := ∀ i, i < n → xs[off + i]? = ys[off + i]?

def EqT (P : Program) (d : Nat) (t : TypeId) (n : Nat) : Prop := ∀ (D : Nat) (xs ys : Array Value) (off : Nat), bothInt xs ys off n →
  ∃ va vb r, (∀ w, (part t xs off).run P w = .ok va w) ∧ (∀ w, (part t ys off).run P w = .ok vb w) ∧ (∀ w, (Op.equalIn (d + D) t va vb).run P w = .ok r w) ∧ (r = true ↔ sameAt xs ys off n)

theorem eqFlds {P : Program} {d : Nat} (IH : ∀ d' t n, d' ≤ d → intCells P d' t = some n → EqT P d' t n) : ∀ (dd : Nat) (fs : List Field) (o n : Nat), dd ≤ d + 1 → intFlds P dd fs o = some n → ∀ (D : Nat) (xs ys : Array Value), d ≤ D → bothInt xs ys o (n - o) → o ≤ n ∧
    ∃ r, (∀ w, (Op.eqFields D xs ys fs).run P w = .ok r w) ∧ (r = true ↔ sameAt xs ys o (n - o)) := by
  intro dd fs
  induction fs generalizing dd with
  | nil =>
    intro o n _ h D xs ys _ _
    cases dd <;> simp only [intFlds, Option.some.injEq] at h <;> subst h <;> exact ⟨Nat.le_refl _, true, fun w => rfl, by simp [sameAt]⟩
  | cons f fs ih =>
    intro o n hdd h D xs ys hD hb
    cases dd with
    | zero => simp [intFlds] at h
    | succ dd =>
      unfold intFlds at h
      split at h
      · rename_i hf
        simp only [Bool.and_eq_true, bne_iff_ne, ne_eq] at hf
        obtain ⟨hn, ho⟩ := hf
        have ho := Nat.eq_of_beq_eq_true ho
        cases hc : intCells P dd f.type with
        | none => rw [hc] at h; cases h
        | some m =>
          rw [hc] at h
          simp only [] at h
          -- how far it goes
          have far : o + m ≤ n := by
            clear ih hb
            have : ∀ (dd : Nat) (fs : List Field) (o n : Nat), intFlds P dd fs o = some n → o ≤ n := by
              intro dd fs
              induction fs generalizing dd with
              | nil => intro o n h; cases dd <;> simp only [intFlds, Option.some.injEq] at h <;> omega
              | cons f fs ih =>
                intro o n h
                cases dd with
                | zero => simp [intFlds] at h
                | succ dd =>
                  unfold intFlds at h
                  split at h
                  · cases hc : intCells P dd f.type with
                    | none => rw [hc] at h; cases h
                    | some m => rw [hc] at h; have := ih _ _ _ h; omega
                  · cases h
            exact this _ _ _ _ h
          obtain ⟨va, vb, r1, p1, p2, p3, hiff⟩ := IH dd f.type m (by omega) hc (D - dd) xs ys o (fun i hi => hb i (by omega))
          rw [show dd + (D - dd) = D from by omega] at p3
          obtain ⟨_, r2, q, hiff2⟩ := ih dd (o + m) n (by omega) h D xs ys hD (fun i hi => by have := hb (m + i) (by omega); simpa [Nat.add_assoc] using this)
          refine ⟨by omega, r1 && r2, fun w => ?_, ?_⟩
          · unfold Op.eqFields
            rw [if_pos hn, Sem.run_bind, ho, p1]
            simp only [Result.andThen_ok]
            rw [Sem.run_bind, p2]
            simp only [Result.andThen_ok]
            rw [Sem.run_bind, p3]
            simp only [Result.andThen_ok]
            cases r1
            · simp
            · simp only [Bool.not_true, Bool.false_eq_true, if_false, Bool.true_and]
              exact q w
          · rw [Bool.and_eq_true, hiff, hiff2]
            constructor
            · rintro ⟨a, b⟩ i hi
              by_cases him : i < m
              · exact a i him
              · have := b (i - m) (by omega)
                rw [show o + m + (i - m) = o + i from by omega] at this
                exact this
            · intro a
              exact ⟨fun i hi => a i (by omega), fun i hi => by have := a (m + i) (by omega); simpa [Nat.add_assoc] using this⟩
      · cases h

theorem eqT {P : Program} : ∀ (d : Nat) (t : TypeId) (n : Nat), intCells P d t = some n → EqT P d t n := by
  intro d
  induction d using Nat.strongRecOn with
  | _ d IH =>
    intro t n h
    cases d with
    | zero => simp [intCells] at h
    | succ d =>
      unfold intCells at h
      cases hu : P.underlying t with
      | none => rw [hu] at h; cases h
      | some k =>
        rw [hu] at h
        cases k <;> simp only [reduceCtorEq] at h
        case int k =>
          simp only [Option.some.injEq] at h
          subst h
          intro D xs ys off hb
          obtain ⟨k', a, b, hx, hy⟩ := hb 0 (by omega)
          refine ⟨.int k' a, .int k' b, a == b, fun w => ?_, fun w => ?_, fun w => ?_, ?_⟩
          · unfold part isAgg; simp at hx; simp [run_underlying hu, hx]
          · unfold part isAgg; simp at hy; simp [run_underlying hu, hy]
          · rw [show d + 1 + D = (d + D) + 1 from by omega]; exact run_equalIn_int w _ t k' k a b hu
          · simp only [beq_iff_eq]
            constructor
            · rintro rfl i hi
              have : i = 0 := by omega
              subst this; rw [hx, hy]
            · intro hs
              have := hs 0 (by omega)
              rw [hx, hy] at this
              simpa using this
        case struct fs =>
          cases hp : P.stoodInHeld t with
          | true => rw [hp] at h; cases h
          | false =>
            rw [hp] at h
            simp only [] at h
            cases hf : intFlds P d fs.toList 0 with
            | none => rw [hf] at h; cases h
            | some m =>
              rw [hf] at h
              simp only [] at h
              split at h
              · rename_i hsz
                simp only [Option.some.injEq] at h
                subst h
                simp only [Bool.and_eq_true, Bool.not_eq_true'] at hsz
                have hcz := Nat.eq_of_beq_eq_true hsz.1
                have hm0 : m ≠ 0 := fun e => by subst e; simp at hsz
                intro D xs ys off hb
                have hz : P.cellsOf t ≠ 0 := by rw [hcz]; exact hm0
                have prt : ∀ zs : Array Value, ∀ w, (part t zs off).run P w = .ok (.agg (zs.extract off (off + m))) w := by
                  intro zs w
                  have h1 := reads_sizeOf (P := P) (h := fun _ => none) (cellsOf_info hz) w w ⟨Quiet.refl w, fun _ _ x => by cases x⟩
                  unfold part isAgg
                  simp only [Sem.run_bind, run_underlying hu, Result.andThen_ok, Sem.run_pure, if_true]
                  rw [h1, hcz]; rfl
                have ext : ∀ zs : Array Value, off + m ≤ zs.size → ∀ i, i < m → (zs.extract off (off + m))[i]? = zs[off + i]? := by
                  intro zs hl i hi
                  rw [Array.getElem?_extract, if_pos (by omega)]
                have szx : off + m ≤ xs.size ∧ off + m ≤ ys.size := by
                  obtain ⟨_, _, _, hx, hy⟩ := hb (m - 1) (by omega)
                  have h1 := (Array.getElem?_eq_some_iff.1 hx).1
                  have h2 := (Array.getElem?_eq_some_iff.1 hy).1
                  omega
                have hb' : bothInt (xs.extract off (off + m)) (ys.extract off (off + m)) 0 (m - 0) := by
                  intro i hi
                  obtain ⟨k, a, b, hx, hy⟩ := hb i (by omega)
                  exact ⟨k, a, b, by rw [Nat.zero_add, ext xs szx.1 i (by omega)]; exact hx, by rw [Nat.zero_add, ext ys szx.2 i (by omega)]; exact hy⟩
                have hF : P.fieldsOf t = fs := by simp [Program.fieldsOf, hu]
                obtain ⟨_, r, q, hiff⟩ := eqFlds (P := P) (d := d) (fun d' t n hd' hc => IH d' (by omega) t n hc) d fs.toList 0 m (by omega) hf (d + D) _ _ (by omega) hb'
                refine ⟨_, _, r, prt xs, prt ys, fun w => ?_, ?_⟩
                · rw [show d + 1 + D = (d + D) + 1 from by omega, run_equalIn_agg w _ t _ _ (by rw [hF]; exact hu) hp, hF]
                  exact q w
                · rw [hiff]
                  constructor
                  · intro a i hi
                    have := a i (by omega)
                    rw [Nat.zero_add, ext xs szx.1 i (by omega), ext ys szx.2 i (by omega)] at this
                    exact this
                  · intro a i hi
                    rw [Nat.zero_add, ext xs szx.1 i (by omega), ext ys szx.2 i (by omega)]
                    exact a i (by omega)
              · cases h

/-- Two rows of integers of a struct's type. -/
theorem eqLaw_deep {P : Program} {t : TypeId} {n d : Nat} {xs ys : Array Value} (h : ((match intCells P d t with | some m => Nat.beq m n | none => false) && (match P.underlying t with | some (.struct _) => true | _ => false) && !P.eqGuardType P.depth t && Nat.ble d 10000) = true) (hx : xs.size = n) (hy : ys.size = n) (hb : bothInt xs ys 0 n) :
    ∃ r, EqLaw P t (.agg xs) (.agg ys) r ∧ (r = true ↔ xs = ys) := by
  simp only [Bool.and_eq_true, Bool.not_eq_true'] at h
  obtain ⟨⟨⟨h1, h2⟩, h3⟩, h4⟩ := h
  cases hc : intCells P d t with
  | none => rw [hc] at h1; cases h1
  | some m =>
    rw [hc] at h1
    have hm := Nat.eq_of_beq_eq_true h1
    subst hm
    have h4 := Nat.le_of_ble_eq_true h4
    obtain ⟨va, vb, r, p1, p2, p3, hiff⟩ := eqT d t m hc (10000 - d) xs ys 0 hb
    rw [show d + (10000 - d) = 10000 from by omega] at p3
    -- what stands there is all of it
    have cells : m = P.cellsOf t ∧ m ≠ 0 := by
      cases d with
      | zero => simp [intCells] at hc
      | succ d =>
        unfold intCells at hc
        cases hu : P.underlying t with
        | none => rw [hu] at h2; cases h2
        | some k =>
          rw [hu] at hc h2
          cases k <;> simp only [Bool.false_eq_true] at h2 hc
          cases hp : P.stoodInHeld t with
          | true => rw [hp] at hc; cases hc
          | false =>
            rw [hp] at hc
            simp only [] at hc
            split at hc
            · split at hc
              · rename_i hsz
                simp only [Option.some.injEq] at hc
                subst hc
                simp only [Bool.and_eq_true, Bool.not_eq_true'] at hsz
                exact ⟨(Nat.eq_of_beq_eq_true hsz.1).symm, fun e => by subst e; simp at hsz⟩
              · cases hc
            · cases hc
    have whole : ∀ (zs : Array Value) (v : Value), zs.size = m → (∀ w, (part t zs 0).run P w = .ok v w) → v = .agg zs := by
      intro zs v hs hp
      have w : World := default
      have h1 := reads_sizeOf (P := P) (h := fun _ => none) (cellsOf_info (t := t) (by rw [← cells.1]; exact cells.2)) w w ⟨Quiet.refl w, fun _ _ x => by cases x⟩
      have := hp w
      cases hu : P.underlying t with
      | none => rw [hu] at h2; cases h2
      | some k =>
        rw [hu] at h2
        cases k <;> simp only [Bool.false_eq_true] at h2
        unfold part isAgg at this
        simp only [Sem.run_bind, run_underlying hu, Result.andThen_ok, Sem.run_pure, if_true] at this
        rw [h1, ← cells.1] at this
        simp only [Result.andThen_ok, Result.ok.injEq, and_true] at this
        rw [← this]; congr 1
        apply Array.ext (by simp [hs])
        intro i h1 h2
        simp
    have e1 := whole xs va hx p1
    have e2 := whole ys vb hy p2
    subst e1; subst e2
    refine ⟨r, ⟨h3, p3⟩, ?_⟩
    rw [hiff]
    constructor
    · intro a
      apply Array.ext (by omega)
      intro i h1 h2
      have := a i (by omega)
      simpa [h1, h2] using this
    · rintro rfl i hi; rfl

end Go.Sx

/-
  SX, part 11: rows of records in memory.
-/
namespace Go.Sx
open Go

/-- Records, one behind the other, and what is behind them. -/
def recArr {α : Type} (enc : α → List Value) (l : List α) (junk : List Value) : Array Value := ((l.map enc).flatten ++ junk).toArray
/-- 'setN' of a list. -/
def setW (c : List Value) (off : Nat) : List Value → List Value
  | [] => c
  | v :: vs => setW (c.set off v) (off + 1) vs
theorem setN_setW (l : List Value) (o : Nat) (vs : List Value) : setN l.toArray o vs = (setW l o vs).toArray := by
  induction vs generalizing l o with
  | nil => rfl
  | cons v vs ih => simp only [setN, setW, List.setIfInBounds_toArray]; exact ih _ _
theorem setW_skip (a r : List Value) (o : Nat) (vs : List Value) : setW (a ++ r) (a.length + o) vs = a ++ setW r o vs := by
  induction vs generalizing r o with
  | nil => rfl
  | cons v vs ih =>
    simp only [setW]
    rw [List.set_append_right _ _ (by omega), show a.length + o - a.length = o from by omega, show a.length + o + 1 = a.length + (o + 1) from by omega]
    exact ih _ _
theorem setW_front (x r : List Value) (k : Nat) (vs : List Value) (h : k + vs.length ≤ x.length) : setW (x ++ r) k vs = setW x k vs ++ r := by
  induction vs generalizing x k with
  | nil => rfl
  | cons v vs ih =>
    simp only [List.length_cons] at h
    simp only [setW]
    rw [List.set_append_left _ _ (by omega)]
    exact ih _ _ (by simp; omega)

section
variable {α : Type} {enc : α → List Value} {w : Nat}
theorem rec_len (hw : ∀ a, (enc a).length = w) (l : List α) : ((l.map enc).flatten).length = l.length * w := by
  induction l with
  | nil => simp
  | cons a l ih => simp only [List.map_cons, List.flatten_cons, List.length_append, List.length_cons, ih, hw]; rw [Nat.add_mul]; omega
theorem rec_size (hw : ∀ a, (enc a).length = w) {l : List α} {junk : List Value} : (recArr enc l junk).size = l.length * w + junk.length := by
  unfold recArr; simp only [List.size_toArray, List.length_append, rec_len hw]
theorem rec_get (hw : ∀ a, (enc a).length = w) {l : List α} {junk : List Value} {n : Nat} (a : α) (h : l[n]? = some a) (k : Nat) (hk : k < w) : (recArr enc l junk)[n * w + k]? = (enc a)[k]? := by
  unfold recArr
  simp only [List.getElem?_toArray]
  induction l generalizing n with
  | nil => simp at h
  | cons b l ih =>
    cases n with
    | zero =>
      simp only [List.getElem?_cons_zero, Option.some.injEq] at h
      subst h
      simp only [List.map_cons, List.flatten_cons, List.append_assoc, Nat.zero_mul, Nat.zero_add]
      rw [List.getElem?_append_left (by rw [hw]; omega)]
    | succ n =>
      simp only [List.map_cons, List.flatten_cons, List.append_assoc]
      rw [List.getElem?_append_right (by rw [hw, Nat.add_mul]; omega)]
      rw [show (n + 1) * w + k - (enc b).length = n * w + k from by rw [hw, Nat.add_mul]; omega]
      exact ih (by simpa using h)
theorem rec_set (hw : ∀ a, (enc a).length = w) {l : List α} {junk : List Value} {n : Nat} (a b : α) (h : l[n]? = some a) (k : Nat) (vs : List Value) (hm : setW (enc a) k vs = enc b) (hk : k + vs.length ≤ w) :
    setN (recArr enc l junk) (n * w + k) vs = recArr enc (l.set n b) junk := by
  unfold recArr
  rw [setN_setW]
  congr 1
  induction l generalizing n with
  | nil => simp at h
  | cons c l ih =>
    cases n with
    | zero =>
      simp only [List.getElem?_cons_zero, Option.some.injEq] at h
      subst h
      simp only [List.map_cons, List.flatten_cons, List.append_assoc, List.set_cons_zero]
      rw [show 0 * w + k = k from by omega, setW_front (enc c) _ k vs (by rw [hw]; omega), hm]
    | succ n =>
      simp only [List.map_cons, List.flatten_cons, List.append_assoc, List.set_cons_succ]
      rw [show (n + 1) * w + k = (enc c).length + (n * w + k) from by rw [hw, Nat.add_mul]; omega, setW_skip]
      rw [ih (by simpa using h)]
theorem rec_snoc (l : List α) (a : α) (junk : List Value) : (((l.map enc).flatten) ++ enc a ++ junk).toArray = recArr enc (l ++ [a]) junk := by
  unfold recArr; simp
end

/-- Two rows of integers of a struct's type, as lists. -/
theorem eqLaw_list {P : Program} {t : TypeId} (n d : Nat) (h : ((match intCells P d t with | some m => Nat.beq m n | none => false) && (match P.underlying t with | some (.struct _) => true | _ => false) && !P.eqGuardType P.depth t && Nat.ble d 10000) = true) (xs ys : List Int) (hx : xs.length = n) (hy : ys.length = n) :
    ∃ r, EqLaw P t (.agg (xs.map (Value.int .i64)).toArray) (.agg (ys.map (Value.int .i64)).toArray) r ∧ (r = true ↔ xs = ys) := by
  obtain ⟨r, l, hr⟩ := eqLaw_deep (P := P) (t := t) (n := n) (d := d) (xs := (xs.map (Value.int .i64)).toArray) (ys := (ys.map (Value.int .i64)).toArray) h (by simpa using hx) (by simpa using hy) (by
    intro i hi
    refine ⟨.i64, xs[i]'(by omega), ys[i]'(by omega), ?_, ?_⟩
    · simp [show i < xs.length by omega]
    · simp [show i < ys.length by omega])
  refine ⟨r, l, hr.trans ⟨fun e => ?_, fun e => by rw [e]⟩⟩
  have e := congrArg Array.toList e
  simp only [] at e
  have inj : ∀ (a b : List Int), a.map (Value.int .i64) = b.map (Value.int .i64) → a = b := by
    intro a
    induction a with
    | nil => intro b h; cases b <;> simp at h ⊢
    | cons x a ih =>
      intro b h
      cases b with
      | nil => simp at h
      | cons y b => simp only [List.map_cons, List.cons.injEq, Value.int.injEq, true_and] at h; rw [h.1, ih b h.2]
  exact inj _ _ e

theorem none_of {g g' : PH} {b : Nat} (l : g.le g') (n : g' b = none) : g b = none := by
  cases hg : g b with
  | none => rfl
  | some O => rw [l _ _ hg] at n; cases n
theorem upd_del' {h : PH} {b : Nat} {O : Obj} (n : h b = none) : (h.upd b O).del b = h := by
  funext x; simp only [del_at, upd_at]; split
  · rename_i e; subst e; exact n.symm
  · rfl

end Go.Sx

/-
  SX, part 17: rows of records, wherever; slices of records of one's own, appended to.
-/
set_option linter.unusedVariables false
namespace Go.Sx
open Go

/-- A type's zero value, cell by cell. -/
def zeroC (P : Program) (t : TypeId) : Array Value := match zeroOf P t with | some v => v.cells | none => #[]
@[simp] theorem add_zero' (a : Addr) : a.add 0 = a := by
  cases a with
  | mk b o s => cases s <;> simp [Addr.add]

section
variable {α : Type} (enc : α → List Value) (w : Nat)
/-- Records in a row, wherever. -/
structure RecsAt (h : PH) (a : Option Addr) (l : List α) : Prop where
  at_ : ∀ (i : Nat) x, l[i]? = some x → ∃ b, a = some b ∧ ∀ (j : Nat) v, (enc x)[j]? = some v → h.cell ((b.add (i * w)).add j) = some v
/-- A slice of records of one's own. -/
def RowIn (el : TypeId) (h : PH) (p : Option Addr) (n c : Nat) (l : List α) (S : List Nat) : Prop :=
  n = l.length ∧ ((l = [] ∧ p = none ∧ c = 0 ∧ S = []) ∨ ∃ b junk, p = some ⟨b, 0, none⟩ ∧ h b = some (.cells (recArr enc l junk) el (0, 0)) ∧ l.length ≤ c ∧ junk.length = (c - l.length) * w ∧ S = [b])
end
variable {α : Type} {enc : α → List Value} {w : Nat}
theorem RecsAt.le {h h' : PH} {a : Option Addr} {l : List α} (x : RecsAt enc w h a l) (le : h.le h') : RecsAt enc w h' a l := by
  refine ⟨fun i e he => ?_⟩
  obtain ⟨b, hb, hc⟩ := x.at_ i e he
  exact ⟨b, hb, fun j v hv => PH.cell_le le (hc j v hv)⟩
theorem RecsAt.take {h : PH} {a : Option Addr} {l : List α} (x : RecsAt enc w h a l) (n : Nat) : RecsAt enc w h a (l.take n) := by
  refine ⟨fun i e he => x.at_ i e ?_⟩
  rw [List.getElem?_take] at he
  split at he
  · exact he
  · cases he
theorem RowIn.nil (el : TypeId) (h : PH) : RowIn enc w el h none 0 0 ([] : List α) [] := ⟨rfl, .inl ⟨rfl, rfl, rfl, rfl⟩⟩
theorem RowIn.of {el : TypeId} {h h' : PH} {p : Option Addr} {n c : Nat} {l : List α} {S : List Nat} (i : RowIn enc w el h p n c l S) (e : ∀ b ∈ S, h' b = h b) : RowIn enc w el h' p n c l S := by
  obtain ⟨rfl, ⟨a, b, c, d⟩ | ⟨b, junk, a, d, e1, f, g⟩⟩ := i
  · exact ⟨rfl, .inl ⟨a, b, c, d⟩⟩
  · exact ⟨rfl, .inr ⟨b, junk, a, (e b (by simp [g])).trans d, e1, f, g⟩⟩
theorem RowIn.known {el : TypeId} {h : PH} {p : Option Addr} {n c : Nat} {l : List α} {S : List Nat} (i : RowIn enc w el h p n c l S) : ∀ b ∈ S, ∃ O, h b = some O := by
  obtain ⟨rfl, ⟨a, b, c, d⟩ | ⟨b, junk, a, d, e1, f, g⟩⟩ := i
  · intro b hb; subst d; cases hb
  · intro x hx; subst g; simp only [List.mem_singleton] at hx; subst hx; exact ⟨_, d⟩
theorem RowIn.le {el : TypeId} {h h' : PH} {p : Option Addr} {n c : Nat} {l : List α} {S : List Nat} (i : RowIn enc w el h p n c l S) (le : h.le h') : RowIn enc w el h' p n c l S :=
  i.of fun b hb => by obtain ⟨O, hO⟩ := i.known b hb; rw [hO]; exact le _ _ hO
theorem RowIn.ext {el : TypeId} {h h' : PH} {p : Option Addr} {n c : Nat} {l : List α} {S T : List Nat} (i : RowIn enc w el h p n c l S) (x : Ext T h h') (d : ∀ b ∈ S, b ∉ T) : RowIn enc w el h' p n c l S :=
  i.of fun b hb => by obtain ⟨O, hO⟩ := i.known b hb; rw [hO]; exact x _ _ hO (d b hb)
theorem RowIn.le_cap {el : TypeId} {h : PH} {p : Option Addr} {n c : Nat} {l : List α} {S : List Nat} (i : RowIn enc w el h p n c l S) : n ≤ c := by
  obtain ⟨rfl, ⟨rfl, b, rfl, d⟩ | ⟨b, junk, a, d, e1, f, g⟩⟩ := i
  · simp
  · exact e1
theorem RowIn.recs {el : TypeId} {h : PH} {p : Option Addr} {n c : Nat} {l : List α} {S : List Nat} (hw : ∀ a, (enc a).length = w) (i : RowIn enc w el h p n c l S) : RecsAt enc w h p l := by
  refine ⟨fun k x hx => ?_⟩
  obtain ⟨rfl, ⟨rfl, b, c, d⟩ | ⟨b, junk, rfl, d, e1, f, g⟩⟩ := i
  · cases hx
  · refine ⟨_, rfl, fun j v hv => ?_⟩
    have hj : j < w := by
      have := (List.getElem?_eq_some_iff.1 hv).1
      rwa [hw] at this
    rw [add_mk, add_mk, cellAt d, Nat.zero_add, rec_get hw x hx j hj]
    exact hv
theorem recArr_snoc (l : List α) (x : α) (junk : List Value) : (l.map enc).flatten ++ enc x ++ junk = ((l ++ [x]).map enc).flatten ++ junk := by simp
/-- One is appended. -/
theorem RowIn.app {el : TypeId} {bytes : Nat} {h : PH} {p : Option Addr} {n c : Nat} {l : List α} {S : List Nat} {sb : Nat} {x : α} {fz : Nat × Nat} {el' : TypeId} {K : Option Addr → Nat → Nat → PH → Prop} (hw : ∀ a, (enc a).length = w) (ho : ∀ v ∈ enc x, oneCell v = true)
    (i : RowIn enc w el h p n c l S) (hs : h sb = some (.cells (enc x).toArray el' fz)) (hl : (2 * (l.length + 1) + 192) * bytes ≤ 2 ^ 48)
    (k : ∀ p' n' c' h' S', RowIn enc w el h' p' n' c' (l ++ [x]) S' → Ext S h h' → (∀ b ∈ S', b ∈ S ∨ h b = none) → K p' n' c' h') : xApp h el w bytes p n c (.slice (some ⟨sb, 0, none⟩) 1 1) K := by
  have src : srcCells h w (.slice (some ⟨sb, 0, none⟩) 1 1) (enc x) 1 := by
    refine ⟨rfl, by rw [hw]; omega, fun i hi => ?_⟩
    rw [add_mk, cellAt hs, Nat.zero_add, List.getElem?_toArray]
  have lf : ∀ (l : List α), ((l.map enc).flatten).length = l.length * w := by
    intro l
    induction l with
    | nil => simp
    | cons a l ih => simp only [List.map_cons, List.flatten_cons, List.length_append, ih, hw, List.length_cons, Nat.add_mul]; omega
  obtain ⟨rfl, ⟨rfl, rfl, rfl, rfl⟩ | ⟨b, junk, rfl, hb, hc, hj, rfl⟩⟩ := i
  · refine ⟨_, 1, src, ho, by simpa using hl, rfl, rfl, fun h => absurd h (by decide), fun _ b cap' junk nb hc hj => ?_⟩
    refine k _ _ _ _ [b] ⟨rfl, .inr ⟨b, junk, rfl, (PH.upd_same _ _ _).trans (by simp [recArr]), hc, by simpa using hj, rfl⟩⟩ ((Ext.refl [] h).upd_new nb) (fun y hy => ?_)
    simp only [List.mem_singleton] at hy
    subst hy; exact .inr nb
  · refine ⟨_, 1, src, ho, hl, (l.map enc).flatten, junk, rfl, hb, lf l, hj, hc, fun b' cap' junk' nb hc' hj' => ?_⟩
    refine k _ _ _ _ [b'] ⟨by simp, .inr ⟨b', junk', rfl, ?_, by simpa using hc', by simpa using hj', rfl⟩⟩ ?_ ?_
    · rw [PH.upd_same, recArr_snoc]; rfl
    · intro y O hy hm
      have h1 : y ≠ b := fun e => hm (by simp [e])
      by_cases e : y = b'
      · subst e
        rw [del_at, if_neg h1] at nb
        rw [nb] at hy; cases hy
      · rw [PH.upd_ne _ _ e, del_at, if_neg h1]; exact hy
    · intro y hy
      simp only [List.mem_singleton] at hy
      subst hy
      rw [del_at] at nb
      split at nb
      · rename_i e; exact .inl (by simp [e])
      · exact .inr nb

theorem setW_all : ∀ (vs pre c : List Value), c.length = vs.length → setW (pre ++ c) pre.length vs = pre ++ vs := by
  intro vs
  induction vs with
  | nil => intro pre c h; simp at h; subst h; rfl
  | cons v vs ih =>
    intro pre c h
    cases c with
    | nil => cases h
    | cons x c =>
      simp only [setW]
      rw [List.set_append_right _ _ (Nat.le_refl _), Nat.sub_self, List.set_cons_zero]
      have := ih (pre ++ [v]) c (by simpa using h)
      simpa [List.length_append] using this
/-- A whole row written anew. -/
theorem setN_all (c : List Value) (vs : List Value) (h : c.length = vs.length) : setN c.toArray 0 vs = vs.toArray := by
  rw [setN_setW]
  congr 1
  exact setW_all vs [] c h
/-- A box that is made and written. -/
theorem xBox {h : PH} {O0 : Array Value} {c : List Value} {el : TypeId} {n : Nat} {vs : List Value} {K : Nat → PH → Prop} (hc : O0 = c.toArray) (hl : c.length = vs.length) (hn : vs.length = n) (hz : n ≠ 0) (ho : ∀ v ∈ vs, oneCell v = true)
    (k : ∀ b h1, h.le h1 → h b = none → h1 b = some (.cells vs.toArray el (0, 0)) → K b h1) : xNew h (.cells O0 el (0, 0)) fun b h1 => xSt n h1 ⟨b, 0, none⟩ vs (K b) := by
  subst hc
  intro b nb
  refine xSt_mk (PH.upd_same _ _ _) hn hz ho (by simp [hl, hn]) ?_
  rw [PH.upd_upd, setN_all _ _ hl]
  exact k b _ (PH.le_upd nb) nb (PH.upd_same _ _ _)

theorem xBlk_split1 {α : Type} {f : (α → PH → Prop) → Prop} {K : α → PH → Prop} (I : α → PH → Prop) (hK : ∀ a h, I a h → K a h) (hf : ∀ K' : α → PH → Prop, (∀ a h, I a h → K' a h) → f K') : xBlk f K := hf K hK
theorem xBlk_split2 {α β : Type} {f : (α → β → PH → Prop) → Prop} {K : α → β → PH → Prop} (I : α → β → PH → Prop) (hK : ∀ a b h, I a b h → K a b h) (hf : ∀ K' : α → β → PH → Prop, (∀ a b h, I a b h → K' a b h) → f K') : xBlk f K := hf K hK
theorem xBlk_split3 {α β γ : Type} {f : (α → β → γ → PH → Prop) → Prop} {K : α → β → γ → PH → Prop} (I : α → β → γ → PH → Prop) (hK : ∀ a b c h, I a b c h → K a b c h) (hf : ∀ K' : α → β → γ → PH → Prop, (∀ a b c h, I a b c h → K' a b c h) → f K') : xBlk f K := hf K hK

end Go.Sx

/-
  The document's model in memory: 227 cells.
-/
set_option linter.unusedSimpArgs false
set_option linter.unusedVariables false
namespace Go.Rf
open Go Go.Md Go.Sx Go.Proofs

def pcC (p : Pc) : List Value := [.int .i64 p.waits, .int .i64 p.left, .int .i64 p.why]
theorem pcC_len (p : Pc) : (pcC p).length = 3 := rfl
def rm3 (R : Rm) : List Value := [.int .i64 R.n, .int .i64 R.m, .int .i64 R.most]
def iv (l : List Int) : List Value := l.map (Value.int .i64)
def bv (l : List Bool) : List Value := l.map Value.bool
def rmP (R : Rm) : List Value := (R.pl.map pcC).flatten ++ []
def rmL (R : Rm) : List Value := rm3 R ++ (iv R.owner ++ (iv R.count ++ (iv R.hash ++ (bv R.flag ++ rmP R))))
def rmA (R : Rm) : Array Value := (rmL R).toArray

theorem setW_iv (l : List Int) (i : Nat) (v : Int) : setW (iv l) i [.int .i64 v] = iv (l.set i v) := by simp [setW, iv, List.map_set]
theorem setW_bv (l : List Bool) (i : Nat) (v : Bool) : setW (bv l) i [.bool v] = bv (l.set i v) := by simp [setW, bv, List.map_set]
theorem iv_len (l : List Int) : (iv l).length = l.length := by simp [iv]
theorem bv_len (l : List Bool) : (bv l).length = l.length := by simp [bv]
section
variable {R : Rm} (w : R.Wf)
include w
theorem rmP_len : (rmP R).length = 192 := by unfold rmP; rw [List.append_nil, rec_len pcC_len, w.p]
theorem rmL_len : (rmL R).length = 227 := by
  unfold rmL; simp only [List.length_append, iv_len, bv_len, w.o, w.c, w.h, w.f, rmP_len w]; rfl
theorem rmA_size : (rmA R).size = 227 := by unfold rmA; rw [List.size_toArray, rmL_len w]
theorem rmL_at {i : Nat} : (rmL R)[i]? = if i < 3 then (rm3 R)[i]? else if i < 11 then (iv R.owner)[i - 3]? else if i < 19 then (iv R.count)[i - 11]? else if i < 27 then (iv R.hash)[i - 19]? else if i < 35 then (bv R.flag)[i - 27]? else (rmP R)[i - 35]? := by
  have l3 : (rm3 R).length = 3 := rfl
  have lo : (iv R.owner).length = 8 := by rw [iv_len, w.o]
  have lc : (iv R.count).length = 8 := by rw [iv_len, w.c]
  have lh : (iv R.hash).length = 8 := by rw [iv_len, w.h]
  have lf : (bv R.flag).length = 8 := by rw [bv_len, w.f]
  unfold rmL
  simp only [List.getElem?_append, l3, lo, lc, lh, lf]
  split
  · rfl
  rename_i h1
  by_cases h2 : i < 11
  · rw [if_pos (by omega), if_pos h2]
  rw [if_neg (by omega), if_neg h2]
  by_cases h3 : i < 19
  · rw [if_pos (by omega), if_pos h3, show i - 3 - 8 = i - 11 by omega]
  rw [if_neg (by omega), if_neg h3]
  by_cases h4 : i < 27
  · rw [if_pos (by omega), if_pos h4, show i - 3 - 8 - 8 = i - 19 by omega]
  rw [if_neg (by omega), if_neg h4]
  by_cases h5 : i < 35
  · rw [if_pos (by omega), if_pos h5, show i - 3 - 8 - 8 - 8 = i - 27 by omega]
  rw [if_neg (by omega), if_neg h5, show i - 3 - 8 - 8 - 8 - 8 = i - 35 by omega]
theorem rm_ow {o : Int} (h : o.toNat < 8) : (rmA R)[3 + o.toNat]? = some (.int .i64 (R.ow o)) := by
  unfold rmA; rw [List.getElem?_toArray, rmL_at w, if_neg (by omega), if_pos (by omega), show 3 + o.toNat - 3 = o.toNat by omega]
  simp only [iv, List.getElem?_map, List.getElem?_eq_getElem (show o.toNat < R.owner.length by rw [w.o]; exact h), Option.map_some, Rm.ow, List.getD_eq_getElem?_getD, Option.getD_some]
theorem rm_ct {o : Int} (h : o.toNat < 8) : (rmA R)[11 + o.toNat]? = some (.int .i64 (R.ct o)) := by
  unfold rmA; rw [List.getElem?_toArray, rmL_at w, if_neg (by omega), if_neg (by omega), if_pos (by omega), show 11 + o.toNat - 11 = o.toNat by omega]
  simp only [iv, List.getElem?_map, List.getElem?_eq_getElem (show o.toNat < R.count.length by rw [w.c]; exact h), Option.map_some, Rm.ct, List.getD_eq_getElem?_getD, Option.getD_some]
theorem rm_hs {o : Int} (h : o.toNat < 8) : (rmA R)[19 + o.toNat]? = some (.int .i64 (R.hs o)) := by
  unfold rmA; rw [List.getElem?_toArray, rmL_at w, if_neg (by omega), if_neg (by omega), if_neg (by omega), if_pos (by omega), show 19 + o.toNat - 19 = o.toNat by omega]
  simp only [iv, List.getElem?_map, List.getElem?_eq_getElem (show o.toNat < R.hash.length by rw [w.h]; exact h), Option.map_some, Rm.hs, List.getD_eq_getElem?_getD, Option.getD_some]
theorem rm_fl {o : Int} (h : o.toNat < 8) : (rmA R)[27 + o.toNat]? = some (.bool (R.fl o)) := by
  unfold rmA; rw [List.getElem?_toArray, rmL_at w, if_neg (by omega), if_neg (by omega), if_neg (by omega), if_neg (by omega), if_pos (by omega), show 27 + o.toNat - 27 = o.toNat by omega]
  simp only [bv, List.getElem?_map, List.getElem?_eq_getElem (show o.toNat < R.flag.length by rw [w.f]; exact h), Option.map_some, Rm.fl, List.getD_eq_getElem?_getD, Option.getD_some]
theorem rm_at {o t : Int} (h : o.toNat < 8) (ht : t.toNat < 8) (k : Nat) (hk : k < 3) : (rmA R)[35 + o.toNat * 24 + t.toNat * 3 + k]? = (pcC (R.at' o t))[k]? := by
  have hp : R.pl[o.toNat * 8 + t.toNat]? = some (R.at' o t) := by
    unfold Rm.at'
    rw [List.getD_eq_getElem?_getD, List.getElem?_eq_getElem (by rw [w.p]; omega)]; rfl
  have := rec_get (enc := pcC) pcC_len (junk := []) (R.at' o t) hp k hk
  unfold recArr at this
  unfold rmA; rw [List.getElem?_toArray, rmL_at w, if_neg (by omega), if_neg (by omega), if_neg (by omega), if_neg (by omega), if_neg (by omega), show 35 + o.toNat * 24 + t.toNat * 3 + k - 35 = (o.toNat * 8 + t.toNat) * 3 + k by omega]
  rw [List.getElem?_toArray] at this
  exact this

theorem set_ow {o v : Int} (h : o.toNat < 8) : setN (rmA R) (3 + o.toNat) [.int .i64 v] = rmA (R.setOw o v) := by
  unfold rmA; rw [setN_setW]; congr 1
  unfold rmL
  rw [show (3 : Nat) = (rm3 R).length from rfl, setW_skip, setW_front _ _ _ _ (by simp [iv_len, w.o]; omega), setW_iv]; rfl
theorem set_ct {o v : Int} (h : o.toNat < 8) : setN (rmA R) (11 + o.toNat) [.int .i64 v] = rmA (R.setCt o v) := by
  unfold rmA; rw [setN_setW]; congr 1
  unfold rmL
  have lo : (iv R.owner).length = 8 := by rw [iv_len, w.o]
  rw [show 11 + o.toNat = (rm3 R).length + ((iv R.owner).length + o.toNat) by rw [lo]; show _ = 3 + _; omega, setW_skip, setW_skip, setW_front _ _ _ _ (by simp [iv_len, w.c]; omega), setW_iv]; rfl
theorem set_hs {o v : Int} (h : o.toNat < 8) : setN (rmA R) (19 + o.toNat) [.int .i64 v] = rmA (R.setHs o v) := by
  unfold rmA; rw [setN_setW]; congr 1
  unfold rmL
  have lo : (iv R.owner).length = 8 := by rw [iv_len, w.o]
  have lc : (iv R.count).length = 8 := by rw [iv_len, w.c]
  rw [show 19 + o.toNat = (rm3 R).length + ((iv R.owner).length + ((iv R.count).length + o.toNat)) by rw [lo, lc]; show _ = 3 + _; omega, setW_skip, setW_skip, setW_skip, setW_front _ _ _ _ (by simp [iv_len, w.h]; omega), setW_iv]; rfl
theorem set_fl {o : Int} {v : Bool} (h : o.toNat < 8) : setN (rmA R) (27 + o.toNat) [.bool v] = rmA (R.setFl o v) := by
  unfold rmA; rw [setN_setW]; congr 1
  unfold rmL
  have lo : (iv R.owner).length = 8 := by rw [iv_len, w.o]
  have lc : (iv R.count).length = 8 := by rw [iv_len, w.c]
  have lh : (iv R.hash).length = 8 := by rw [iv_len, w.h]
  rw [show 27 + o.toNat = (rm3 R).length + ((iv R.owner).length + ((iv R.count).length + ((iv R.hash).length + o.toNat))) by rw [lo, lc, lh]; show _ = 3 + _; omega, setW_skip, setW_skip, setW_skip, setW_skip, setW_front _ _ _ _ (by simp [bv_len, w.f]; omega), setW_bv]; rfl
theorem set_at {o t : Int} (h : o.toNat < 8) (ht : t.toNat < 8) (q : Pc) (vs : List Value) (hq : setW (pcC (R.at' o t)) 0 vs = pcC q) (hv : vs.length ≤ 3) : setN (rmA R) (35 + o.toNat * 24 + t.toNat * 3) vs = rmA (R.setAt o t q) := by
  have hp : R.pl[o.toNat * 8 + t.toNat]? = some (R.at' o t) := by
    unfold Rm.at'
    rw [List.getD_eq_getElem?_getD, List.getElem?_eq_getElem (by rw [w.p]; omega)]; rfl
  have key := rec_set (enc := pcC) pcC_len (junk := []) (R.at' o t) q hp 0 vs hq (by omega)
  unfold recArr at key
  rw [setN_setW] at key
  have key := congrArg Array.toList key
  simp only [] at key
  unfold rmA; rw [setN_setW]; congr 1
  unfold rmL
  have lo : (iv R.owner).length = 8 := by rw [iv_len, w.o]
  have lc : (iv R.count).length = 8 := by rw [iv_len, w.c]
  have lh : (iv R.hash).length = 8 := by rw [iv_len, w.h]
  have lf : (bv R.flag).length = 8 := by rw [bv_len, w.f]
  rw [show 35 + o.toNat * 24 + t.toNat * 3 = (rm3 R).length + ((iv R.owner).length + ((iv R.count).length + ((iv R.hash).length + ((bv R.flag).length + ((o.toNat * 8 + t.toNat) * 3 + 0))))) by rw [lo, lc, lh, lf]; show _ = 3 + _; omega, setW_skip, setW_skip, setW_skip, setW_skip, setW_skip]
  show _ ++ (_ ++ (_ ++ (_ ++ (_ ++ setW (rmP R) _ vs)))) = _
  unfold rmP
  rw [key]; rfl
end

theorem one_rm (R : Rm) : ∀ v ∈ (rmA R).toList, oneCell v = true := by
  intro v hv
  have hv : v ∈ rmL R := by simpa [rmA] using hv
  unfold rmL rm3 iv bv rmP at hv
  simp only [List.mem_append, List.mem_cons, List.not_mem_nil, or_false, List.mem_map, List.mem_flatten] at hv
  rcases hv with (rfl | rfl | rfl) | ⟨x, _, rfl⟩ | ⟨x, _, rfl⟩ | ⟨x, _, rfl⟩ | ⟨x, _, rfl⟩ | ⟨l, ⟨p, _, rfl⟩, hv⟩ <;> try rfl
  simp only [pcC, List.mem_cons, List.not_mem_nil, or_false] at hv
  rcases hv with rfl | rfl | rfl <;> rfl

theorem xIdxA_eq {a : Addr} {len : Nat} {i : Int} {size : Nat} {K : Addr → Prop} (h : 0 ≤ i ∧ i < (len : Int)) : xIdxA a len i size K = K (a.add (i.toNat * size)) := propext ⟨fun x => x.2, fun x => ⟨h, x⟩⟩
theorem oBig_eq {h : PH} {b : Nat} {c : Array Value} {el : TypeId} {fz : Nat × Nat} {n : Nat} {K : Array Value → Prop} (hb : h b = some (.cells c el fz)) (hn : c.size = n) : oBig h ⟨b, 0, none⟩ n K = K c := by
  refine propext ⟨fun ⟨cs, h1, h2, h3⟩ => ?_, fun k => ⟨c, hn, fun i hi => by rw [add_mk, cellAt hb, Nat.zero_add], k⟩⟩
  have : cs = c := by
    apply Array.ext_getElem?
    intro i
    by_cases hi : i < n
    · have := h2 i hi
      rw [add_mk, cellAt hb, Nat.zero_add] at this
      exact this.symm
    · rw [Array.getElem?_eq_none (by omega), Array.getElem?_eq_none (by omega)]
  rw [← this]; exact h3
theorem xSt_all {h : PH} {b : Nat} {c : Array Value} {el : TypeId} {n : Nat} {vs : Array Value} {K : PH → Prop} (hb : h b = some (.cells c el (0, 0))) (hc : c.size = n) (hn : vs.size = n) (hz : n ≠ 0) (ho : ∀ v ∈ vs.toList, oneCell v = true) (k : K (h.upd b (.cells vs el (0, 0)))) : xSt n h ⟨b, 0, none⟩ vs.toList K := by
  refine xSt_mk hb (by simpa using hn) hz ho (by omega) ?_
  have : setN c 0 vs.toList = vs := by
    have := setN_all c.toList vs.toList (by simp [hc, hn])
    simpa using this
  rw [this]; exact k

/-- A model in a block. -/
structure Mx (R : Rm) (h : PH) (b2 : Nat) : Prop where
  m : h b2 = some (.cells (rmA R) 77 (0, 0))
  w : R.Wf
section
variable {h : PH} {b2 : Nat} {R : Rm} (f : Mx R h b2)
include f
theorem Mx.m0 : h.cell ((⟨b2, 0, none⟩ : Addr).add 0) = some (.int .i64 R.n) := by rw [cellAdd f.m]; rfl
theorem Mx.m1 : h.cell ((⟨b2, 0, none⟩ : Addr).add 1) = some (.int .i64 R.m) := by rw [cellAdd f.m]; rfl
theorem Mx.m2 : h.cell ((⟨b2, 0, none⟩ : Addr).add 2) = some (.int .i64 R.most) := by rw [cellAdd f.m]; rfl
theorem Mx.ow {o : Int} (ho : o.toNat < 8) : h.cell (((⟨b2, 0, none⟩ : Addr).add 3).add (o.toNat * 1)) = some (.int .i64 (R.ow o)) := by
  rw [add_mk, add_mk, cellAt f.m, Nat.zero_add, Nat.mul_one]; exact rm_ow f.w ho
theorem Mx.ct {o : Int} (ho : o.toNat < 8) : h.cell (((⟨b2, 0, none⟩ : Addr).add 11).add (o.toNat * 1)) = some (.int .i64 (R.ct o)) := by
  rw [add_mk, add_mk, cellAt f.m, Nat.zero_add, Nat.mul_one]; exact rm_ct f.w ho
theorem Mx.hs {o : Int} (ho : o.toNat < 8) : h.cell (((⟨b2, 0, none⟩ : Addr).add 19).add (o.toNat * 1)) = some (.int .i64 (R.hs o)) := by
  rw [add_mk, add_mk, cellAt f.m, Nat.zero_add, Nat.mul_one]; exact rm_hs f.w ho
theorem Mx.fl {o : Int} (ho : o.toNat < 8) : h.cell (((⟨b2, 0, none⟩ : Addr).add 27).add (o.toNat * 1)) = some (.bool (R.fl o)) := by
  rw [add_mk, add_mk, cellAt f.m, Nat.zero_add, Nat.mul_one]; exact rm_fl f.w ho
theorem Mx.p0 {o t : Int} (ho : o.toNat < 8) (ht : t.toNat < 8) : h.cell (((((⟨b2, 0, none⟩ : Addr).add 35).add (o.toNat * 24)).add (t.toNat * 3)).add 0) = some (.int .i64 (R.at' o t).waits) := by
  rw [add_mk, add_mk, add_mk, add_mk, cellAt f.m, Nat.zero_add]; exact rm_at f.w ho ht 0 (by omega)
theorem Mx.p1 {o t : Int} (ho : o.toNat < 8) (ht : t.toNat < 8) : h.cell (((((⟨b2, 0, none⟩ : Addr).add 35).add (o.toNat * 24)).add (t.toNat * 3)).add 1) = some (.int .i64 (R.at' o t).left) := by
  rw [add_mk, add_mk, add_mk, add_mk, cellAt f.m, Nat.zero_add]; exact rm_at f.w ho ht 1 (by omega)
theorem Mx.p2 {o t : Int} (ho : o.toNat < 8) (ht : t.toNat < 8) : h.cell (((((⟨b2, 0, none⟩ : Addr).add 35).add (o.toNat * 24)).add (t.toNat * 3)).add 2) = some (.int .i64 (R.at' o t).why) := by
  rw [add_mk, add_mk, add_mk, add_mk, cellAt f.m, Nat.zero_add]; exact rm_at f.w ho ht 2 (by omega)
theorem Mx.all {K : Array Value → Prop} : oBig h ⟨b2, 0, none⟩ 227 K = K (rmA R) := oBig_eq f.m (rmA_size f.w)
theorem Mx.le {h' : PH} (l : h.le h') : Mx R h' b2 := ⟨l _ _ f.m, f.w⟩
end

/-- A transition in a block. -/
structure Ex (e : Ev) (h : PH) (b3 : Nat) : Prop where
  e : h b3 = some (.cells #[.int .i64 e.kind, .int .i64 e.thread, .int .i64 e.obj, .int .i64 e.arg, .int .i64 e.err] 29 (0, 0))
section
variable {h : PH} {b3 : Nat} {e : Ev} (f : Ex e h b3)
include f
theorem Ex.e0 : h.cell ((⟨b3, 0, none⟩ : Addr).add 0) = some (.int .i64 e.kind) := by rw [cellAdd f.e]; rfl
theorem Ex.e1 : h.cell ((⟨b3, 0, none⟩ : Addr).add 1) = some (.int .i64 e.thread) := by rw [cellAdd f.e]; rfl
theorem Ex.e2 : h.cell ((⟨b3, 0, none⟩ : Addr).add 2) = some (.int .i64 e.obj) := by rw [cellAdd f.e]; rfl
theorem Ex.e3 : h.cell ((⟨b3, 0, none⟩ : Addr).add 3) = some (.int .i64 e.arg) := by rw [cellAdd f.e]; rfl
theorem Ex.e4 : h.cell ((⟨b3, 0, none⟩ : Addr).add 4) = some (.int .i64 e.err) := by rw [cellAdd f.e]; rfl
end

/-- What is known of a run of a method: the model, the transition, the place of the answer. -/
structure Fx (h0 : PH) (b2 b3 b4 : Nat) (R : Rm) (e : Ev) (h : PH) : Prop where
  m : h b2 = some (.cells (rmA R) 77 (0, 0))
  e : h b3 = some (.cells #[.int .i64 e.kind, .int .i64 e.thread, .int .i64 e.obj, .int .i64 e.arg, .int .i64 e.err] 29 (0, 0))
  o : ∃ c : Array Value, c.size = 227 ∧ h b4 = some (.cells c 77 (0, 0))
  n2 : h0 b2 = none
  n4 : h0 b4 = none
  d23 : b2 ≠ b3
  d24 : b2 ≠ b4
  d34 : b3 ≠ b4
  l : h0.le h
  w : R.Wf

theorem zero_size : (zeroC Try.prog 77).size = 227 := by kernel_rfl

theorem Fx.start {h : PH} {R : Rm} {e : Ev} (w : R.Wf) {K : Nat → Nat → Nat → PH → Prop} (k : ∀ b2 b3 b4 h', Fx h b2 b3 b4 R e h' → K b2 b3 b4 h') :
    xNew h (.cells (rmA R) 77 (0, 0)) fun b2 h1 => xNew h1 (.cells #[.int .i64 e.kind, .int .i64 e.thread, .int .i64 e.obj, .int .i64 e.arg, .int .i64 e.err] 29 (0, 0)) fun b3 h2 => xNew h2 (.cells (zeroC Try.prog 77) 77 (0, 0)) fun b4 h3 => K b2 b3 b4 h3 := by
  intro b2 n2 b3 n3 b4 n4
  obtain ⟨d23, n3⟩ := upd_none n3
  obtain ⟨d34, n4'⟩ := upd_none n4
  obtain ⟨d24, n4'⟩ := upd_none n4'
  refine k b2 b3 b4 _ ⟨?_, ?_, ⟨_, zero_size, PH.upd_same _ _ _⟩, n2, n4', d23, d24, d34, ?_, w⟩
  · rw [PH.upd_ne _ _ d24, PH.upd_ne _ _ d23, PH.upd_same]
  · rw [PH.upd_ne _ _ d34, PH.upd_same]
  · exact PH.le_trans (PH.le_upd n2) (PH.le_trans (PH.le_upd (by rw [PH.upd_ne _ _ (Ne.symm d23)]; exact n3)) (PH.le_upd n4))

section
variable {h0 h : PH} {b2 b3 b4 : Nat} {R : Rm} {e : Ev} (f : Fx h0 b2 b3 b4 R e h)
include f
theorem Fx.x : Mx R h b2 := ⟨f.m, f.w⟩
theorem Fx.y : Ex e h b3 := ⟨f.e⟩
theorem Fx.dx : Mx R (h.del b4) b2 := ⟨by rw [del_at, if_neg f.d24]; exact f.m, f.w⟩
theorem Fx.dy : Ex e (h.del b4) b3 := ⟨by rw [del_at, if_neg f.d34]; exact f.e⟩
/-- The answer is laid down. -/
theorem Fx.fin {R' : Rm} (w' : R'.Wf) {Q : Array Value → PH → Prop} (k : ∀ h', h0.le h' → Q (rmA R') h') : xSt 227 h ⟨b4, 0, none⟩ (rmA R').toList fun h' => oBig h' ⟨b4, 0, none⟩ 227 fun y => Q y h' := by
  obtain ⟨c, hc, ho⟩ := f.o
  refine xSt_all ho hc (rmA_size w') (by decide) (one_rm R') ?_
  rw [oBig_eq (PH.upd_same _ _ _) (rmA_size w')]
  exact k _ (upd_le_upd f.n4 f.l)
/-- .. where what was drawn goes ahead. -/
theorem Fx.finD {R' : Rm} (w' : R'.Wf) {g : PH} (lg : (g.del b4).le h) {Q : Array Value → PH → Prop} (k : ∀ h', h0.le h' → Q (rmA R') h') : xSt 227 h ⟨b4, 0, none⟩ (rmA R').toList fun h' => (g.del b4).le h' ∧ oBig h' ⟨b4, 0, none⟩ 227 fun y => Q y h' := by
  obtain ⟨c, hc, ho⟩ := f.o
  refine xSt_all ho hc (rmA_size w') (by decide) (one_rm R') ⟨PH.del_le_upd lg, ?_⟩
  rw [oBig_eq (PH.upd_same _ _ _) (rmA_size w')]
  exact k _ (upd_le_upd f.n4 f.l)
theorem Fx.put {R' : Rm} (w' : R'.Wf) : Fx h0 b2 b3 b4 R' e (h.upd b2 (.cells (rmA R') 77 (0, 0))) := by
  refine ⟨PH.upd_same _ _ _, by rw [PH.upd_ne _ _ (Ne.symm f.d23)]; exact f.e, ?_, f.n2, f.n4, f.d23, f.d24, f.d34, upd_le_upd f.n2 f.l, w'⟩
  obtain ⟨c, hc, ho⟩ := f.o
  exact ⟨c, hc, by rw [PH.upd_ne _ _ (Ne.symm f.d24)]; exact ho⟩
theorem Fx.le {h' : PH} (l : h.le h') : Fx h0 b2 b3 b4 R e h' := by
  obtain ⟨c, hc, ho⟩ := f.o
  exact ⟨l _ _ f.m, l _ _ f.e, ⟨c, hc, l _ _ ho⟩, f.n2, f.n4, f.d23, f.d24, f.d34, PH.le_trans f.l l, f.w⟩
variable {K : PH → Prop}
theorem Fx.sow {o v : Int} (ho : o.toNat < 8) (k : ∀ h', (∀ x, x ≠ b2 → h' x = h x) → Fx h0 b2 b3 b4 (R.setOw o v) e h' → K h') : xSt 1 h (((⟨b2, 0, none⟩ : Addr).add 3).add (o.toNat * 1)) [.int .i64 v] K := by
  rw [add_mk, add_mk, Nat.zero_add, Nat.mul_one]
  refine xSt_mk f.m rfl (by decide) (by simp [oneCell]) (by rw [rmA_size f.w]; omega) ?_
  rw [set_ow f.w ho]; exact k _ (fun x hx => PH.upd_ne _ _ hx) (f.put (f.w.setOw _ _))
theorem Fx.sct {o v : Int} (ho : o.toNat < 8) (k : ∀ h', (∀ x, x ≠ b2 → h' x = h x) → Fx h0 b2 b3 b4 (R.setCt o v) e h' → K h') : xSt 1 h (((⟨b2, 0, none⟩ : Addr).add 11).add (o.toNat * 1)) [.int .i64 v] K := by
  rw [add_mk, add_mk, Nat.zero_add, Nat.mul_one]
  refine xSt_mk f.m rfl (by decide) (by simp [oneCell]) (by rw [rmA_size f.w]; omega) ?_
  rw [set_ct f.w ho]; exact k _ (fun x hx => PH.upd_ne _ _ hx) (f.put (f.w.setCt _ _))
theorem Fx.shs {o v : Int} (ho : o.toNat < 8) (k : ∀ h', (∀ x, x ≠ b2 → h' x = h x) → Fx h0 b2 b3 b4 (R.setHs o v) e h' → K h') : xSt 1 h (((⟨b2, 0, none⟩ : Addr).add 19).add (o.toNat * 1)) [.int .i64 v] K := by
  rw [add_mk, add_mk, Nat.zero_add, Nat.mul_one]
  refine xSt_mk f.m rfl (by decide) (by simp [oneCell]) (by rw [rmA_size f.w]; omega) ?_
  rw [set_hs f.w ho]; exact k _ (fun x hx => PH.upd_ne _ _ hx) (f.put (f.w.setHs _ _))
theorem Fx.sfl {o : Int} {v : Bool} (ho : o.toNat < 8) (k : ∀ h', (∀ x, x ≠ b2 → h' x = h x) → Fx h0 b2 b3 b4 (R.setFl o v) e h' → K h') : xSt 1 h (((⟨b2, 0, none⟩ : Addr).add 27).add (o.toNat * 1)) [.bool v] K := by
  rw [add_mk, add_mk, Nat.zero_add, Nat.mul_one]
  refine xSt_mk f.m rfl (by decide) (by simp [oneCell]) (by rw [rmA_size f.w]; omega) ?_
  rw [set_fl f.w ho]; exact k _ (fun x hx => PH.upd_ne _ _ hx) (f.put (f.w.setFl _ _))
theorem Fx.sat {o t : Int} (ho : o.toNat < 8) (ht : t.toNat < 8) {v1 v2 v3 : Int} (k : ∀ h', (∀ x, x ≠ b2 → h' x = h x) → Fx h0 b2 b3 b4 (R.setAt o t ⟨v1, v2, v3⟩) e h' → K h') : xSt 3 h ((((⟨b2, 0, none⟩ : Addr).add 35).add (o.toNat * 24)).add (t.toNat * 3)) [.int .i64 v1, .int .i64 v2, .int .i64 v3] K := by
  rw [add_mk, add_mk, add_mk, Nat.zero_add]
  refine xSt_mk f.m rfl (by decide) (by simp [oneCell]) (by rw [rmA_size f.w]; omega) ?_
  rw [set_at f.w ho ht ⟨v1, v2, v3⟩ _ rfl (by simp)]; exact k _ (fun x hx => PH.upd_ne _ _ hx) (f.put (f.w.setAt _ _ _))
theorem Fx.swt {o t v : Int} (ho : o.toNat < 8) (ht : t.toNat < 8) (k : ∀ h', (∀ x, x ≠ b2 → h' x = h x) → Fx h0 b2 b3 b4 (R.setAt o t { R.at' o t with waits := v }) e h' → K h') : xSt 1 h (((((⟨b2, 0, none⟩ : Addr).add 35).add (o.toNat * 24)).add (t.toNat * 3)).add 0) [.int .i64 v] K := by
  rw [add_mk, add_mk, add_mk, add_mk, Nat.zero_add, Nat.add_zero]
  refine xSt_mk f.m rfl (by decide) (by simp [oneCell]) (by rw [rmA_size f.w]; omega) ?_
  rw [set_at f.w ho ht { R.at' o t with waits := v } _ rfl (by simp)]; exact k _ (fun x hx => PH.upd_ne _ _ hx) (f.put (f.w.setAt _ _ _))
end

end Go.Rf
