/-
  A model in memory.
-/
import Derived.Test.YtnnedfhpicdacaaM2
namespace Go.Md
open Go Go.Sx Go.Proofs

/-- The blocks of a model: its own, its monitors', its flags', and its two maps'. -/
structure ML where
  m : Nat
  ob : Nat
  fb : Nat
  wb : Nat
  lb : Nat
def ML.all (L : ML) : List Nat := [L.m, L.ob, L.fb, L.wb, L.lb]

def moV (m : Mo) : List Value := [.int .i64 m.owner, .int .i64 m.count, .int .i64 m.hash]
def moArr (l : List Mo) (junk : List Value) : Array Value := ((l.map moV).flatten ++ junk).toArray
def flArr (l : List Bool) (junk : List Value) : Array Value := (l.map Value.bool ++ junk).toArray
def encI (n : Int) : Value := .int .i64 n
def encL (p : Int × Int) : Value := .agg #[.int .i64 p.1, .int .i64 p.2]

structure MRep (h : PH) (L : ML) (s : Ms) : Prop where
  nd : L.all.Nodup
  nm : s.mons.length ≤ 8
  nf : s.flags.length ≤ 8
  cm : ∃ c c', h L.m = some (.cells #[.int .i64 s.most, .slice (some ⟨L.ob, 0, none⟩) s.mons.length c, .slice (some ⟨L.fb, 0, none⟩) s.flags.length c', .map (some L.wb), .map (some L.lb)] 45 (0, 0))
  co : ∃ junk, h L.ob = some (.cells (moArr s.mons junk) 117 (0, 0))
  cf : ∃ junk, h L.fb = some (.cells (flArr s.flags junk) 4 (0, 0))
  cw : MapRep encI h L.wb s.waits
  cl : MapRep encL h L.lb s.left

theorem MRep.of {h h' : PH} {L : ML} {s : Ms} (r : MRep h L s) (e : ∀ b ∈ L.all, h' b = h b) : MRep h' L s := by
  obtain ⟨nd, nm, nf, cm, co, cf, cw, cl⟩ := r
  have e1 := e L.m (by simp [ML.all]); have e2 := e L.ob (by simp [ML.all]); have e3 := e L.fb (by simp [ML.all]); have e4 := e L.wb (by simp [ML.all]); have e5 := e L.lb (by simp [ML.all])
  exact ⟨nd, nm, nf, by rw [e1]; exact cm, by rw [e2]; exact co, by rw [e3]; exact cf, cw.of e4, cl.of e5⟩
theorem MRep.known {h : PH} {L : ML} {s : Ms} (r : MRep h L s) : ∀ b ∈ L.all, ∃ O, h b = some O := by
  obtain ⟨nd, nm, nf, ⟨c, c', cm⟩, ⟨j, co⟩, ⟨j', cf⟩, ⟨es, k, cw, _⟩, ⟨es', k', cl, _⟩⟩ := r
  intro b hb
  simp only [ML.all, List.mem_cons, List.not_mem_nil, or_false] at hb
  rcases hb with rfl | rfl | rfl | rfl | rfl
  · exact ⟨_, cm⟩
  · exact ⟨_, co⟩
  · exact ⟨_, cf⟩
  · exact ⟨_, cw⟩
  · exact ⟨_, cl⟩
theorem MRep.le {h h' : PH} {L : ML} {s : Ms} (r : MRep h L s) (l : h.le h') : MRep h' L s := by
  refine r.of fun b hb => ?_
  obtain ⟨O, hO⟩ := r.known b hb
  rw [hO]; exact l _ _ hO
theorem MRep.ext {h h' : PH} {L : ML} {s : Ms} {S : List Nat} (r : MRep h L s) (l : Ext S h h') (d : ∀ b ∈ L.all, b ∉ S) : MRep h' L s := by
  refine r.of fun b hb => ?_
  obtain ⟨O, hO⟩ := r.known b hb
  rw [hO]; exact l _ _ hO (d b hb)
theorem MRep.new {h : PH} {L : ML} {s : Ms} (r : MRep h L s) {b : Nat} {O : Obj} (n : h b = none) : MRep (h.upd b O) L s := r.le (PH.le_upd n)
/-- A new block is none of its. -/
theorem MRep.off {h : PH} {L : ML} {s : Ms} (r : MRep h L s) {b : Nat} (n : h b = none) : L.m ≠ b ∧ L.ob ≠ b ∧ L.fb ≠ b ∧ L.wb ≠ b ∧ L.lb ≠ b := by
  have : ∀ x ∈ L.all, x ≠ b := by
    intro x hx e
    obtain ⟨O, hO⟩ := r.known x hx
    subst e; rw [n] at hO; cases hO
  exact ⟨this _ (by simp [ML.all]), this _ (by simp [ML.all]), this _ (by simp [ML.all]), this _ (by simp [ML.all]), this _ (by simp [ML.all])⟩
theorem MRep.nes {h : PH} {L : ML} {s : Ms} (r : MRep h L s) : L.m ≠ L.ob ∧ L.m ≠ L.fb ∧ L.m ≠ L.wb ∧ L.m ≠ L.lb ∧ L.ob ≠ L.fb ∧ L.ob ≠ L.wb ∧ L.ob ≠ L.lb ∧ L.fb ≠ L.wb ∧ L.fb ≠ L.lb ∧ L.wb ≠ L.lb := by
  have := r.nd
  simp only [ML.all, List.nodup_cons, List.mem_cons, List.not_mem_nil, or_false, not_or, not_false_eq_true, List.nodup_nil, and_true] at this
  obtain ⟨⟨a, b, c, d⟩, ⟨e, f, g⟩, ⟨i, j⟩, k⟩ := this
  exact ⟨a, b, c, d, e, f, g, i, j, k⟩

/-! ### Monitors and flags in their rows -/
theorem moArr_get {l : List Mo} {junk : List Value} {n : Nat} (h : n < l.length) (k : Nat) (hk : k < 3) : (moArr l junk)[n * 3 + k]? = (moV (l.getD n ⟨-1, 0, 0⟩))[k]? := by
  unfold moArr
  simp only [List.getElem?_toArray]
  induction l generalizing n with
  | nil => simp at h
  | cons a l ih =>
    cases n with
    | zero =>
      simp only [List.map_cons, List.flatten_cons, List.append_assoc, Nat.zero_mul, Nat.zero_add, List.getD_cons_zero]
      rw [List.getElem?_append_left (by simp [moV]; omega)]
    | succ n =>
      simp only [List.map_cons, List.flatten_cons, List.append_assoc, List.getD_cons_succ]
      rw [List.getElem?_append_right (by simp [moV]; omega)]
      rw [show (n + 1) * 3 + k - (moV a).length = n * 3 + k from by simp [moV]; omega]
      exact ih (by simpa using h)
theorem moArr_size {l : List Mo} {junk : List Value} : (moArr l junk).size = l.length * 3 + junk.length := by
  unfold moArr
  simp only [List.size_toArray, List.length_append]
  congr 1
  induction l with
  | nil => rfl
  | cons a l ih => simp only [List.map_cons, List.flatten_cons, List.length_append, List.length_cons, ih]; simp [moV]; omega
theorem moArr_0 {l : List Mo} {junk : List Value} {n : Nat} (h : n < l.length) : (moArr l junk)[n * 3]? = some (.int .i64 (l.getD n ⟨-1, 0, 0⟩).owner) := moArr_get h 0 (by omega)
theorem moArr_1 {l : List Mo} {junk : List Value} {n : Nat} (h : n < l.length) : (moArr l junk)[n * 3 + 1]? = some (.int .i64 (l.getD n ⟨-1, 0, 0⟩).count) := moArr_get h 1 (by omega)
theorem moArr_2 {l : List Mo} {junk : List Value} {n : Nat} (h : n < l.length) : (moArr l junk)[n * 3 + 2]? = some (.int .i64 (l.getD n ⟨-1, 0, 0⟩).hash) := moArr_get h 2 (by omega)
/-- 'setN' of a list. -/
def setL (c : List Value) (off : Nat) : List Value → List Value
  | [] => c
  | v :: vs => setL (c.set off v) (off + 1) vs
theorem setN_list (l : List Value) (o : Nat) (vs : List Value) : setN l.toArray o vs = (setL l o vs).toArray := by
  induction vs generalizing l o with
  | nil => rfl
  | cons v vs ih => simp only [setN, setL, List.setIfInBounds_toArray]; exact ih _ _
theorem setL_skip (a r : List Value) (o : Nat) (vs : List Value) : setL (a ++ r) (a.length + o) vs = a ++ setL r o vs := by
  induction vs generalizing r o with
  | nil => rfl
  | cons v vs ih =>
    simp only [setL]
    rw [List.set_append_right _ _ (by omega), show a.length + o - a.length = o from by omega, show a.length + o + 1 = a.length + (o + 1) from by omega]
    exact ih _ _
theorem moArr_set {l : List Mo} {junk : List Value} {n : Nat} (h : n < l.length) (k : Nat) (vs : List Value) (m : Mo) (hm : setL (moV (l.getD n ⟨-1, 0, 0⟩)) k vs = moV m) (hk : k + vs.length ≤ 3) :
    setN (moArr l junk) (n * 3 + k) vs = moArr (l.set n m) junk := by
  unfold moArr
  rw [setN_list]
  congr 1
  induction l generalizing n with
  | nil => simp at h
  | cons a l ih =>
    have front : ∀ (x r : List Value) (k : Nat) (vs : List Value), k + vs.length ≤ x.length → setL (x ++ r) k vs = setL x k vs ++ r := by
      intro x r k vs
      induction vs generalizing x k with
      | nil => intro _; rfl
      | cons v vs ih =>
        intro hl
        simp only [List.length_cons] at hl
        simp only [setL]
        rw [List.set_append_left _ _ (by omega)]
        exact ih _ _ (by simp; omega)
    cases n with
    | zero =>
      simp only [List.map_cons, List.flatten_cons, List.append_assoc, List.set_cons_zero]
      simp only [List.getD_cons_zero] at hm
      rw [show 0 * 3 + k = k from by omega, front (moV a) _ k vs (by simp [moV]; omega), hm]
    | succ n =>
      simp only [List.map_cons, List.flatten_cons, List.append_assoc, List.set_cons_succ]
      simp only [List.getD_cons_succ] at hm
      rw [show (n + 1) * 3 + k = (moV a).length + (n * 3 + k) from by simp [moV]; omega, setL_skip]
      rw [ih (by simpa using h) hm]
theorem flArr_get {l : List Bool} {junk : List Value} {n : Nat} (h : n < l.length) : (flArr l junk)[n]? = some (.bool (l.getD n false)) := by
  unfold flArr
  simp [List.getElem?_append_left, h]
theorem flArr_size {l : List Bool} {junk : List Value} : (flArr l junk).size = l.length + junk.length := by simp [flArr]
theorem flArr_set {l : List Bool} {junk : List Value} {n : Nat} (h : n < l.length) (b : Bool) : setN (flArr l junk) n [.bool b] = flArr (l.set n b) junk := by
  simp only [setN, flArr, List.setIfInBounds_toArray]
  rw [List.set_append_left _ _ (by simpa using h), List.map_set]

end Go.Md
