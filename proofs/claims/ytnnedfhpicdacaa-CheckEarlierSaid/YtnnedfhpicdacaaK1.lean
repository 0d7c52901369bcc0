/-
  slices.Sort at []int, as a contract over what is known of memory.
-/
import Derived.Test.YtnnedfhpicdacaaSx9
import Derived.Test.YtnnedfhpicdacaaK1L
import Derived.Shelf.Slices.In.SortNone
import Derived.Shelf.Sort.Plain
set_option linter.unusedVariables false
namespace Go.Sx
open Go Go.Proofs Go.Proofs.Ytnnedfhpicdacaa

/-- Integers in a row, and what lies behind them. -/
def intArr (l : List Int) (junk : List Value) : Array Value := (l.map (Value.int .i64) ++ junk).toArray
theorem intArr_size (l : List Int) (junk : List Value) : (intArr l junk).size = l.length + junk.length := by simp [intArr]
theorem intArr_get {l : List Int} {junk : List Value} {n : Nat} (h : n < l.length) : (intArr l junk)[n]? = some (.int .i64 l[n]) := by
  simp [intArr, List.getElem?_append_left, h]
def sortI (l : List Int) : List Int := l.mergeSort fun x y => decide (x ≤ y)
theorem sortI_length (l : List Int) : (sortI l).length = l.length := by simp [sortI]

/-- A slice of integers of one's own. -/
def IntsIn (h : PH) (p : Option Addr) (n c : Nat) (l : List Int) (S : List Nat) : Prop :=
  n = l.length ∧ ((l = [] ∧ p = none ∧ c = 0 ∧ S = []) ∨ ∃ b junk, p = some ⟨b, 0, none⟩ ∧ h b = some (.cells (intArr l junk) 3 (0, 0)) ∧ l.length ≤ c ∧ junk.length = c - l.length ∧ S = [b])
theorem IntsIn.nil (h : PH) : IntsIn h none 0 0 [] [] := ⟨rfl, .inl ⟨rfl, rfl, rfl, rfl⟩⟩
theorem IntsIn.of {h h' : PH} {p : Option Addr} {n c : Nat} {l : List Int} {S : List Nat} (i : IntsIn h p n c l S) (e : ∀ b ∈ S, h' b = h b) : IntsIn h' p n c l S := by
  obtain ⟨rfl, ⟨a, b, c, d⟩ | ⟨b, junk, a, d, e1, f, g⟩⟩ := i
  · exact ⟨rfl, .inl ⟨a, b, c, d⟩⟩
  · exact ⟨rfl, .inr ⟨b, junk, a, (e b (by simp [g])).trans d, e1, f, g⟩⟩
theorem IntsIn.known {h : PH} {p : Option Addr} {n c : Nat} {l : List Int} {S : List Nat} (i : IntsIn h p n c l S) : ∀ b ∈ S, h b ≠ none := by
  obtain ⟨rfl, ⟨a, b, c, d⟩ | ⟨b, junk, a, d, e1, f, g⟩⟩ := i
  · intro b hb; subst d; cases hb
  · intro x hx; subst g; simp only [List.mem_singleton] at hx; subst hx; rw [d]; simp
theorem IntsIn.app {h : PH} {p : Option Addr} {n c : Nat} {l : List Int} {S : List Nat} {sb : Nat} {x : Int} {K : Option Addr → Nat → Nat → PH → Prop} (i : IntsIn h p n c l S) (hs : h sb = some (.cells #[.int .i64 x] 3 (0, 0))) (hl : l.length ≤ 1000000)
    (k : ∀ p' n' c' h' S', IntsIn h' p' n' c' (l ++ [x]) S' → Ext S h h' → (∀ b ∈ S', b ∈ S ∨ h b = none) → K p' n' c' h') : xApp h 3 1 8 p n c (.slice (some ⟨sb, 0, none⟩) 1 1) K := by
  have src : srcCells h 1 (.slice (some ⟨sb, 0, none⟩) 1 1) [.int .i64 x] 1 := by
    refine ⟨rfl, rfl, fun i hi => ?_⟩
    have : i = 0 := by omega
    subst this
    rw [add_mk, cellAt hs]; rfl
  obtain ⟨rfl, ⟨rfl, rfl, rfl, rfl⟩ | ⟨b, junk, rfl, hb, hc, hj, rfl⟩⟩ := i
  · refine ⟨_, 1, src, by simp [oneCell], by simp, rfl, rfl, fun h => absurd h (by decide), fun _ b cap' junk nb hc hj => ?_⟩
    refine k _ _ _ _ [b] ⟨rfl, .inr ⟨b, junk, rfl, PH.upd_same _ _ _, hc, by simpa using hj, rfl⟩⟩ ((Ext.refl [] h).upd_new nb) (fun y hy => ?_)
    simp only [List.mem_singleton] at hy
    subst hy; exact .inr nb
  · refine ⟨_, 1, src, by simp [oneCell], by omega, l.map (Value.int .i64), junk, rfl, hb, by simp, by omega, hc, fun b' cap' junk' nb hc' hj' => ?_⟩
    refine k _ _ _ _ [b'] ⟨by simp, .inr ⟨b', junk', rfl, ?_, by simpa using hc', by simpa using hj', rfl⟩⟩ ?_ ?_
    · rw [PH.upd_same]
      simp [intArr]
    · intro y O hy hm
      have h1 : y ≠ b := fun e => hm (by simp [e])
      by_cases e : y = b'
      · subst e
        rw [del_at, if_neg h1] at nb
        rw [nb] at hy; cases hy
      · rw [PH.upd_ne _ _ e, del_at, if_neg h1]; exact hy
    · intro y hy
      simp only [List.mem_singleton] at hy
      subst hy
      rw [del_at] at nb
      split at nb
      · rename_i e; exact .inl (by simp [e])
      · exact .inr nb

theorem putCells_intArr (l l' : List Int) (junk : List Value) (h : l'.length = l.length) : Sort.putCells (Value.int .i64) 0 l'.toArray (intArr l junk) = intArr l' junk := by
  apply Array.ext_getElem?
  intro k
  simp only [Sort.putCells, Array.getElem?_mapIdx]
  by_cases hk : k < l'.length
  · rw [intArr_get (by omega), intArr_get hk]
    simp [hk]
  · have e1 : (intArr l junk)[k]? = (intArr l' junk)[k]? := by
      simp only [intArr, List.getElem?_toArray]
      rw [List.getElem?_append_right (by simp; omega), List.getElem?_append_right (by simp; omega)]
      simp [h]
    rw [e1]
    cases (intArr l' junk)[k]? with
    | none => rfl
    | some x => simp [hk]

theorem meets_sort {h : PH} {b : Nat} {l : List Int} {junk : List Value} {el : TypeId} (c : Nat) (hb : h b = some (.cells (intArr l junk) el (0, 0))) (hl : l.length < 4611686018427387904) :
    Meets Try.prog 86 #[.slice (some ⟨b, 0, none⟩) l.length c] h fun v h' => v = .tuple #[] ∧ h' = h.upd b (.cells (intArr (sortI l) junk) el (0, 0)) := by
  intro W w st
  have hw := st.sh _ _ hb
  have hlt : b < w.heap.size := (Array.getElem?_eq_some_iff.1 hw).1
  have hH : Sort.Holds (Value.int .i64) w b 0 l.toArray := by
    intro j hj
    simp only [List.size_toArray] at hj
    refine ⟨?_, ?_⟩
    · unfold World.cell?
      rw [hw]
      simp [intArr_get hj, hj]
    · unfold World.frozen?
      rw [hw]
      simp
  refine (Any.slices_Sort_int srt b 0 c l w hH hlt hl).mono ?_
  rintro e w' ⟨rfl, n, os, rfl⟩
  refine ⟨_, _, rfl, ⟨⟨st.q.os, st.q.tape, st.q.output⟩, fun x O hx => ?_⟩, rfl, rfl⟩
  show ((w.heap.modify b (Sort.onCells _)) ++ os)[x]? = some O
  rw [upd_at] at hx
  split at hx
  · rename_i e; subst e
    simp only [Option.some.injEq] at hx
    subst hx
    rw [Array.getElem?_append_left (by simpa using hlt)]
    rw [Array.getElem?_modify, if_pos rfl, hw]
    simp only [Option.map_some, Sort.onCells]
    exact congrArg (fun c => some (Obj.cells c el (0, 0))) (putCells_intArr l (sortI l) junk (sortI_length l))
  · rename_i e
    have h2 := st.sh _ _ hx
    have hlt2 : x < w.heap.size := (Array.getElem?_eq_some_iff.1 h2).1
    rw [Array.getElem?_append_left (by simpa using hlt2), Array.getElem?_modify, if_neg (fun y => e y.symm)]
    exact h2

theorem meets_sort_nil {h : PH} (p : Option Addr) (c : Nat) : Meets Try.prog 86 #[.slice p 0 c] h fun v h' => v = .tuple #[] ∧ h' = h := by
  intro W w st
  refine (Any.slices_Sort_int_none srt p c w).mono ?_
  rintro e w' ⟨rfl, rfl⟩
  exact ⟨_, _, rfl, st, rfl, rfl⟩

end Go.Sx
