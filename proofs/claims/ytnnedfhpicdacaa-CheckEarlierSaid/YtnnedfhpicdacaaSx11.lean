/-
  SX, part 11: rows of records in memory.
-/
import Derived.Test.YtnnedfhpicdacaaSx10
namespace Go.Sx
open Go

/-- Records, one behind the other, and what is behind them. -/
def recArr {α : Type} (enc : α → List Value) (l : List α) (junk : List Value) : Array Value := ((l.map enc).flatten ++ junk).toArray
/-- 'setN' of a list. -/
def setW (c : List Value) (off : Nat) : List Value → List Value
  | [] => c
  | v :: vs => setW (c.set off v) (off + 1) vs
theorem setN_setW (l : List Value) (o : Nat) (vs : List Value) : setN l.toArray o vs = (setW l o vs).toArray := by
  induction vs generalizing l o with
  | nil => rfl
  | cons v vs ih => simp only [setN, setW, List.setIfInBounds_toArray]; exact ih _ _
theorem setW_skip (a r : List Value) (o : Nat) (vs : List Value) : setW (a ++ r) (a.length + o) vs = a ++ setW r o vs := by
  induction vs generalizing r o with
  | nil => rfl
  | cons v vs ih =>
    simp only [setW]
    rw [List.set_append_right _ _ (by omega), show a.length + o - a.length = o from by omega, show a.length + o + 1 = a.length + (o + 1) from by omega]
    exact ih _ _
theorem setW_front (x r : List Value) (k : Nat) (vs : List Value) (h : k + vs.length ≤ x.length) : setW (x ++ r) k vs = setW x k vs ++ r := by
  induction vs generalizing x k with
  | nil => rfl
  | cons v vs ih =>
    simp only [List.length_cons] at h
    simp only [setW]
    rw [List.set_append_left _ _ (by omega)]
    exact ih _ _ (by simp; omega)

section
variable {α : Type} {enc : α → List Value} {w : Nat}
theorem rec_len (hw : ∀ a, (enc a).length = w) (l : List α) : ((l.map enc).flatten).length = l.length * w := by
  induction l with
  | nil => simp
  | cons a l ih => simp only [List.map_cons, List.flatten_cons, List.length_append, List.length_cons, ih, hw]; rw [Nat.add_mul]; omega
theorem rec_size (hw : ∀ a, (enc a).length = w) {l : List α} {junk : List Value} : (recArr enc l junk).size = l.length * w + junk.length := by
  unfold recArr; simp only [List.size_toArray, List.length_append, rec_len hw]
theorem rec_get (hw : ∀ a, (enc a).length = w) {l : List α} {junk : List Value} {n : Nat} (a : α) (h : l[n]? = some a) (k : Nat) (hk : k < w) : (recArr enc l junk)[n * w + k]? = (enc a)[k]? := by
  unfold recArr
  simp only [List.getElem?_toArray]
  induction l generalizing n with
  | nil => simp at h
  | cons b l ih =>
    cases n with
    | zero =>
      simp only [List.getElem?_cons_zero, Option.some.injEq] at h
      subst h
      simp only [List.map_cons, List.flatten_cons, List.append_assoc, Nat.zero_mul, Nat.zero_add]
      rw [List.getElem?_append_left (by rw [hw]; omega)]
    | succ n =>
      simp only [List.map_cons, List.flatten_cons, List.append_assoc]
      rw [List.getElem?_append_right (by rw [hw, Nat.add_mul]; omega)]
      rw [show (n + 1) * w + k - (enc b).length = n * w + k from by rw [hw, Nat.add_mul]; omega]
      exact ih (by simpa using h)
theorem rec_set (hw : ∀ a, (enc a).length = w) {l : List α} {junk : List Value} {n : Nat} (a b : α) (h : l[n]? = some a) (k : Nat) (vs : List Value) (hm : setW (enc a) k vs = enc b) (hk : k + vs.length ≤ w) :
    setN (recArr enc l junk) (n * w + k) vs = recArr enc (l.set n b) junk := by
  unfold recArr
  rw [setN_setW]
  congr 1
  induction l generalizing n with
  | nil => simp at h
  | cons c l ih =>
    cases n with
    | zero =>
      simp only [List.getElem?_cons_zero, Option.some.injEq] at h
      subst h
      simp only [List.map_cons, List.flatten_cons, List.append_assoc, List.set_cons_zero]
      rw [show 0 * w + k = k from by omega, setW_front (enc c) _ k vs (by rw [hw]; omega), hm]
    | succ n =>
      simp only [List.map_cons, List.flatten_cons, List.append_assoc, List.set_cons_succ]
      rw [show (n + 1) * w + k = (enc c).length + (n * w + k) from by rw [hw, Nat.add_mul]; omega, setW_skip]
      rw [ih (by simpa using h)]
theorem rec_snoc (l : List α) (a : α) (junk : List Value) : (((l.map enc).flatten) ++ enc a ++ junk).toArray = recArr enc (l ++ [a]) junk := by
  unfold recArr; simp
end

/-- Two rows of integers of a struct's type, as lists. -/
theorem eqLaw_list {P : Program} {t : TypeId} (n d : Nat) (h : ((match intCells P d t with | some m => Nat.beq m n | none => false) && (match P.underlying t with | some (.struct _) => true | _ => false) && !P.eqGuardType P.depth t && Nat.ble d 10000) = true) (xs ys : List Int) (hx : xs.length = n) (hy : ys.length = n) :
    ∃ r, EqLaw P t (.agg (xs.map (Value.int .i64)).toArray) (.agg (ys.map (Value.int .i64)).toArray) r ∧ (r = true ↔ xs = ys) := by
  obtain ⟨r, l, hr⟩ := eqLaw_deep (P := P) (t := t) (n := n) (d := d) (xs := (xs.map (Value.int .i64)).toArray) (ys := (ys.map (Value.int .i64)).toArray) h (by simpa using hx) (by simpa using hy) (by
    intro i hi
    refine ⟨.i64, xs[i]'(by omega), ys[i]'(by omega), ?_, ?_⟩
    · simp [show i < xs.length by omega]
    · simp [show i < ys.length by omega])
  refine ⟨r, l, hr.trans ⟨fun e => ?_, fun e => by rw [e]⟩⟩
  have e := congrArg Array.toList e
  simp only [] at e
  have inj : ∀ (a b : List Int), a.map (Value.int .i64) = b.map (Value.int .i64) → a = b := by
    intro a
    induction a with
    | nil => intro b h; cases b <;> simp at h ⊢
    | cons x a ih =>
      intro b h
      cases b with
      | nil => simp at h
      | cons y b => simp only [List.map_cons, List.cons.injEq, Value.int.injEq, true_and] at h; rw [h.1, ih b h.2]
  exact inj _ _ e

theorem none_of {g g' : PH} {b : Nat} (l : g.le g') (n : g' b = none) : g b = none := by
  cases hg : g b with
  | none => rfl
  | some O => rw [l _ _ hg] at n; cases n
theorem upd_del' {h : PH} {b : Nat} {O : Obj} (n : h b = none) : (h.upd b O).del b = h := by
  funext x; simp only [del_at, upd_at]; split
  · rename_i e; subst e; exact n.symm
  · rfl

end Go.Sx
