/-
  Maps of places: no place stands twice; what is left of a walk over one.
-/
import Derived.Test.YtnnedfhpicdacaaM3
set_option linter.unusedSimpArgs false
set_option linter.unusedVariables false
namespace Go.Md
open Go Go.Sx Go.Proofs

/-! ### Maps -/
/-- No place stands twice. -/
def Pl.Once {α : Type} (l : Pl α) : Prop := (l.map fun p => (p.1, p.2.1)).Nodup

theorem Pl.find_mem {α : Type} {l : Pl α} (o : Pl.Once l) {p : Int × Int × α} (hp : p ∈ l) : l.find p.1 p.2.1 = some p.2.2 := by
  induction l with
  | nil => cases hp
  | cons q l ih =>
    unfold Pl.Once at o
    simp only [List.map_cons, List.nodup_cons, List.mem_map, not_exists, not_and] at o
    unfold Pl.find
    rcases List.mem_cons.1 hp with rfl | hp
    · rw [List.find?_cons_of_pos (by simp)]; rfl
    · rw [List.find?_cons_of_neg]
      · exact ih o.2 hp
      · intro e
        simp only [Bool.and_eq_true, beq_iff_eq] at e
        exact o.1 p hp (by rw [← e.1, ← e.2])

theorem Stamps.find {es : List MapEntry} {cl : Nat} (s : Stamps es cl) {e : MapEntry} (he : e ∈ es) : es.find? (fun x => x.born == e.born) = some e := by
  have nd := s.nd
  clear s
  induction es with
  | nil => cases he
  | cons x r ih =>
    simp only [List.map_cons, List.nodup_cons, List.mem_map, not_exists, not_and] at nd
    rcases List.mem_cons.1 he with rfl | he
    · rw [List.find?_cons_of_pos (by simp)]
    · rw [List.find?_cons_of_neg]
      · exact ih he nd.2
      · intro hh
        simp only [beq_iff_eq] at hh
        exact nd.1 e he hh.symm

/-- What is left of a walk over a map. -/
def leftOf (es : List MapEntry) (seen : Array Nat) : Nat := (es.filter fun e => !seen.contains e.born).length
theorem left_push {es : List MapEntry} {seen : Array Nat} {e : MapEntry} (he : e ∈ es) (hs : seen.contains e.born = false) : leftOf es (seen.push e.born) < leftOf es seen := by
  unfold leftOf
  have sub : ∀ (l : List MapEntry), (l.filter fun x => !(seen.push e.born).contains x.born).length ≤ (l.filter fun x => !seen.contains x.born).length := by
    intro l
    induction l with
    | nil => simp
    | cons x l ih =>
      simp only [List.filter_cons]
      by_cases h : seen.contains x.born = true
      · have : (seen.push e.born).contains x.born = true := by
          simp at h ⊢; exact .inl h
        simp only [h, this, Bool.not_true, Bool.false_eq_true, if_false]; exact ih
      · have h : seen.contains x.born = false := by simpa using h
        simp only [h, Bool.not_false, if_true]
        split
        · simp only [List.length_cons]; omega
        · simp only [List.length_cons]; omega
  induction es with
  | nil => cases he
  | cons x l ih =>
    simp only [List.filter_cons]
    rcases List.mem_cons.1 he with rfl | he
    · have : (seen.push e.born).contains e.born = true := by simp
      simp only [hs, this, Bool.not_true, Bool.not_false, Bool.false_eq_true, if_false, if_true, List.length_cons]
      have := sub l
      omega
    · have := ih he
      by_cases h : seen.contains x.born = true
      · have h2 : (seen.push e.born).contains x.born = true := by
          simp at h ⊢; exact .inl h
        simp only [h, h2, Bool.not_true, Bool.false_eq_true, if_false]; exact this
      · have h : seen.contains x.born = false := by simpa using h
        simp only [h, Bool.not_false, if_true]
        split
        · simp only [List.length_cons]; omega
        · simp only [List.length_cons]; omega

/-- Who is there of what stands in memory. -/
theorem Ents.mem {α : Type} {enc : α → Value} {es : List MapEntry} {l : Pl α} (h : Ents enc es l) {e : MapEntry} (he : e ∈ es) : ∃ p ∈ l, e.key = key2 p.1 p.2.1 ∧ e.val = enc p.2.2 := by
  have : (e.key, e.val) ∈ es.map (fun e => (MapEntry.key e, MapEntry.val e)) := List.mem_map_of_mem he
  rw [h] at this
  obtain ⟨p, hp, hh⟩ := List.mem_map.1 this
  simp only [Prod.mk.injEq] at hh
  exact ⟨p, hp, hh.1.symm, hh.2.symm⟩

theorem Stamps.all {es : Array MapEntry} {cl : Nat} (s : Stamps es.toList cl) (hne : es.isEmpty = false) : es.all (fun e => decide (e.born ≥ cl)) = false := by
  obtain ⟨l⟩ := es
  cases l with
  | nil => cases hne
  | cons e r =>
    have := s.lt e (List.mem_cons_self ..)
    simp only [List.all_toArray, List.all_cons, Bool.and_eq_false_iff, decide_eq_false_iff_not]
    left; omega

theorem back_push (a : Array Nat) (x : Nat) : (a.push x).back? = some x := by simp

/-- No place stands twice in a model. -/
structure Ms.Once (s : Ms) : Prop where
  w : Pl.Once s.waits
  l : Pl.Once s.left

theorem Pl.once_put {α : Type} {l : Pl α} (h : Pl.Once l) (o t : Int) (x : α) : Pl.Once (l.put o t x) := by
  have key : ∀ (l : Pl α), (l.put o t x).map (fun p => (p.1, p.2.1)) = if (o, t) ∈ l.map (fun p => (p.1, p.2.1)) then l.map (fun p => (p.1, p.2.1)) else l.map (fun p => (p.1, p.2.1)) ++ [(o, t)] := by
    intro l
    induction l with
    | nil => simp [Pl.put]
    | cons p l ih =>
      unfold Pl.put
      by_cases hp : p.1 = o ∧ p.2.1 = t
      · rw [if_pos hp]
        obtain ⟨h1, h2⟩ := hp
        simp [← h1, ← h2]
      · rw [if_neg hp]
        simp only [List.map_cons, ih, List.mem_cons]
        have : ¬(o, t) = (p.1, p.2.1) := fun e => hp (by simp only [Prod.mk.injEq] at e; exact ⟨e.1.symm, e.2.symm⟩)
        by_cases hm : (o, t) ∈ l.map (fun p => (p.1, p.2.1))
        · simp only [hm, or_true, if_true]
        · simp only [this, hm, or_false, if_false, List.cons_append]
  unfold Pl.Once at h ⊢
  rw [key]
  split
  · exact h
  · rename_i hm
    rw [List.nodup_append]
    refine ⟨h, by simp, ?_⟩
    intro a ha b hb
    simp only [List.mem_singleton] at hb
    subst hb
    exact fun e => hm (e ▸ ha)
theorem Pl.del_sub {α : Type} (l : Pl α) (o t : Int) : (l.del o t).Sublist l := by
  induction l with
  | nil => exact .slnil
  | cons p l ih =>
    unfold Pl.del
    split
    · exact List.sublist_cons_self _ _
    · exact ih.cons_cons _
theorem Pl.once_del {α : Type} {l : Pl α} (h : Pl.Once l) (o t : Int) : Pl.Once (l.del o t) := by
  unfold Pl.Once at h ⊢
  exact h.sublist ((Pl.del_sub l o t).map _)


/-- A list that stands once in another one is no longer. -/
theorem nodup_le {α : Type} : ∀ {l m : List α}, l.Nodup → (∀ x ∈ l, x ∈ m) → l.length ≤ m.length := by
  classical
  intro l
  induction l with
  | nil => intro m _ _; simp
  | cons a l ih =>
    intro m hn hs
    have ha := hs a (List.mem_cons_self ..)
    simp only [List.nodup_cons] at hn
    have := ih (m := m.erase a) hn.2 fun x hx => by
      have hne : x ≠ a := fun e => hn.1 (e ▸ hx)
      exact (List.mem_erase_of_ne hne).2 (hs x (List.mem_cons_of_mem _ hx))
    rw [List.length_erase_of_mem ha] at this
    have hp : 0 < m.length := List.length_pos_of_mem ha
    simp only [List.length_cons]
    omega
/-- Places of eight objects and eight threads. -/
def inRng {α : Type} (l : Pl α) : Prop := ∀ p ∈ l, (0 ≤ p.1 ∧ p.1 < 8) ∧ (0 ≤ p.2.1 ∧ p.2.1 < 8)
theorem Pl.once_le {α : Type} {l : Pl α} (h : Pl.Once l) (r : inRng l) : l.length ≤ 64 := by
  have hn : (l.map fun p => (p.1 * 8 + p.2.1).toNat).Nodup := by
    unfold Pl.Once at h
    induction l with
    | nil => simp
    | cons p l ih =>
      simp only [List.map_cons, List.nodup_cons, List.mem_map, not_exists, not_and] at h ⊢
      refine ⟨fun q hq e => h.1 q hq ?_, ih h.2 (fun q hq => r q (List.mem_cons_of_mem _ hq))⟩
      have h1 := r p (List.mem_cons_self ..)
      have h2 := r q (List.mem_cons_of_mem _ hq)
      have e1 : q.1 = p.1 := by omega
      have e2 : q.2.1 = p.2.1 := by omega
      rw [e1, e2]
  have := nodup_le (m := List.range 64) hn fun x hx => by
    obtain ⟨p, hp, rfl⟩ := List.mem_map.1 hx
    have h1 := r p hp
    simp only [List.mem_range]
    omega
  simpa using this

end Go.Md
