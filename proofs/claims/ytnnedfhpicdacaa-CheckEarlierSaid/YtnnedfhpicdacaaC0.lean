/-
  Orders of calls, as plain values: the first one that can have been.
-/
import Derived.Test.YtnnedfhpicdacaaM0
set_option linter.unusedSimpArgs false
set_option linter.unusedVariables false
namespace Go.Ck
open Go Go.Md

structure Cl where
  event : Ev
  fr : Int
  to : Int
def cl0 : Cl := ⟨⟨0, 0, 0, 0, 0⟩, 0, 0⟩
def Cl.may (c : Cl) : Bool :=
  if decide (c.fr ≥ c.to) = true then false
  else if c.event.kind = 1 ∨ c.event.kind = 2 ∨ c.event.kind = 3 ∨ c.event.kind = 9 ∨ c.event.kind = 11 ∨ c.event.kind = 12 then true
  else if c.event.kind = 8 then c.event.arg == -1
  else if c.event.kind = 10 then c.event.err == 0
  else false

section
variable (l : List Cl)
def cl (k : Nat) : Cl := l.getD k cl0
/-- Whether a call may be the next one. -/
def freeK (done k : Nat) : Bool := !done.testBit k && (List.range l.length).all fun i => !decide ((cl l i).to < (cl l k).fr) || done.testBit i
def leftN (done : Nat) : Nat := ((List.range l.length).filter fun k => !done.testBit k).length
def srch : Nat → Nat → Ms → Option (List Nat)
  | 0, _, _ => some []
  | f + 1, done, s => (List.range l.length).findSome? fun k => if (freeK l done k && s.code (cl l k).event == 0) = true then (srch f (done ||| 2 ^ k) (s.next (cl l k).event)).map (k :: ·) else none
/-- An order of those that are left. -/
def Valid : Nat → Ms → List Nat → Prop
  | done, _, [] => leftN l done = 0
  | done, s, k :: ks => k < l.length ∧ freeK l done k = true ∧ s.code (cl l k).event = 0 ∧ Valid (done ||| 2 ^ k) (s.next (cl l k).event) ks
end

theorem testBit_or_pow (d k i : Nat) : (d ||| 2 ^ k).testBit i = (d.testBit i || decide (k = i)) := by
  rw [Nat.testBit_or, Nat.testBit_two_pow]

theorem left_or {l : List Cl} {done k : Nat} (hk : k < l.length) (hb : done.testBit k = false) : leftN l (done ||| 2 ^ k) + 1 = leftN l done := by
  unfold leftN
  have key : ∀ n, k < n → ((List.range n).filter fun i => !(done ||| 2 ^ k).testBit i).length + 1 = ((List.range n).filter fun i => !done.testBit i).length := by
    intro n
    induction n with
    | zero => intro h; omega
    | succ n ih =>
      intro h
      rw [List.range_succ, List.filter_append, List.filter_append, List.length_append, List.length_append]
      by_cases e : k = n
      · subst e
        have same : ((List.range k).filter fun i => !(done ||| 2 ^ k).testBit i) = (List.range k).filter fun i => !done.testBit i := by
          apply List.filter_congr
          intro i hi
          have : i < k := by simpa using hi
          rw [testBit_or_pow]
          have : decide (k = i) = false := by simp; omega
          rw [this, Bool.or_false]
        rw [same]
        simp [List.filter_cons, testBit_or_pow, hb]
      · have := ih (by omega)
        have e2 : (done ||| 2 ^ k).testBit n = done.testBit n := by rw [testBit_or_pow]; simp [e]
        simp only [List.filter_cons, List.filter_nil, e2]
        omega
  exact key _ hk
theorem left_zero {l : List Cl} {done : Nat} (h : leftN l done = 0) : ∀ k, k < l.length → done.testBit k = true := by
  intro k hk
  unfold leftN at h
  have := List.eq_nil_of_length_eq_zero h
  rw [List.filter_eq_nil_iff] at this
  have := this k (by simpa using hk)
  simpa using this
theorem left_full {l : List Cl} : leftN l (2 ^ l.length - 1) = 0 := by
  unfold leftN
  rw [List.length_eq_zero_iff, List.filter_eq_nil_iff]
  intro k hk
  have : k < l.length := by simpa using hk
  simp [Nat.testBit_two_pow_sub_one, this]
theorem full_of_left {l : List Cl} {done : Nat} (hd : done < 2 ^ l.length) (h : leftN l done = 0) : done = 2 ^ l.length - 1 := by
  apply Nat.eq_of_testBit_eq
  intro i
  rw [Nat.testBit_two_pow_sub_one]
  by_cases hi : i < l.length
  · simp [hi, left_zero h i hi]
  · simp only [hi, decide_false]
    apply Nat.testBit_lt_two_pow
    exact Nat.lt_of_lt_of_le hd (Nat.pow_le_pow_right (by decide) (by omega))
theorem left_pos {l : List Cl} {done : Nat} (hd : done < 2 ^ l.length) (h : done ≠ 2 ^ l.length - 1) : leftN l done ≠ 0 := fun h0 => h (full_of_left hd h0)
theorem or_lt {l : List Cl} {done k : Nat} (hd : done < 2 ^ l.length) (hk : k < l.length) : done ||| 2 ^ k < 2 ^ l.length := Nat.or_lt_two_pow hd (Nat.pow_lt_pow_right (by decide) hk)
theorem left_start (l : List Cl) : leftN l 0 = l.length := by
  unfold leftN
  rw [List.filter_eq_self.2 (by intro k _; simp)]
  simp

theorem free_bit {l : List Cl} {done k : Nat} (h : freeK l done k = true) : done.testBit k = false := by
  unfold freeK at h
  simp only [Bool.and_eq_true, Bool.not_eq_true'] at h
  exact h.1

theorem srch_valid {l : List Cl} : ∀ (f done : Nat) (s : Ms) (ks : List Nat), leftN l done = f → srch l f done s = some ks → Valid l done s ks := by
  intro f
  induction f with
  | zero => intro done s ks hf h; simp only [srch, Option.some.injEq] at h; subst h; exact hf
  | succ f ih =>
    intro done s ks hf h
    unfold srch at h
    obtain ⟨k, hk, hh⟩ := List.exists_of_findSome?_eq_some h
    have hk : k < l.length := by simpa using hk
    split at hh
    · rename_i hc
      simp only [Bool.and_eq_true, beq_iff_eq] at hc
      cases hr : srch l f (done ||| 2 ^ k) (s.next (cl l k).event) with
      | none => rw [hr] at hh; cases hh
      | some ks' =>
        rw [hr] at hh
        simp only [Option.map_some, Option.some.injEq] at hh
        subst hh
        have := left_or hk (free_bit hc.1)
        exact ⟨hk, hc.1, hc.2, ih _ _ _ (by omega) hr⟩
    · cases hh

theorem srch_some {l : List Cl} : ∀ (f done : Nat) (s : Ms) (ks : List Nat), leftN l done = f → Valid l done s ks → srch l f done s ≠ none := by
  intro f
  induction f with
  | zero => intro done s ks _ _; simp [srch]
  | succ f ih =>
    intro done s ks hf h
    cases ks with
    | nil => simp only [Valid] at h; omega
    | cons k ks =>
      obtain ⟨hk, hfr, hc, hv⟩ := h
      have := left_or hk (free_bit hfr)
      have hr := ih _ _ _ (by omega) hv
      unfold srch
      intro hn
      rw [List.findSome?_eq_none_iff] at hn
      have := hn k (by simpa using hk)
      rw [if_pos (by simp [hfr, hc])] at this
      cases hx : srch l f (done ||| 2 ^ k) (s.next (cl l k).event) with
      | none => exact hr hx
      | some r => rw [hx] at this; cases this

/-- What is done behind some calls. -/
def doneOf (d : Nat) (ks : List Nat) : Nat := ks.foldl (fun d k => d ||| 2 ^ k) d
def after (l : List Cl) (s : Ms) (ks : List Nat) : Ms := ks.foldl (fun s k => s.next (cl l k).event) s
theorem doneOf_bit (ks : List Nat) : ∀ (d i : Nat), (doneOf d ks).testBit i = (d.testBit i || decide (i ∈ ks)) := by
  induction ks with
  | nil => intro d i; simp [doneOf]
  | cons k ks ih =>
    intro d i
    show (doneOf (d ||| 2 ^ k) ks).testBit i = _
    rw [ih, testBit_or_pow]
    by_cases h1 : i = k
    · subst h1; simp
    · have : ¬k = i := fun h => h1 h.symm
      simp [h1, this]
theorem valid_at {l : List Cl} : ∀ (ks : List Nat) (d : Nat) (s : Ms), Valid l d s ks → ∀ j (hj : j < ks.length), ks[j] < l.length ∧ freeK l (doneOf d (ks.take j)) ks[j] = true ∧ (after l s (ks.take j)).code (cl l ks[j]).event = 0 := by
  intro ks
  induction ks with
  | nil => intro d s _ j hj; simp at hj
  | cons k ks ih =>
    intro d s h j hj
    obtain ⟨hk, hf, hc, hv⟩ := h
    cases j with
    | zero => exact ⟨hk, hf, hc⟩
    | succ j => exact ih _ _ hv j (by simpa using hj)
theorem free_spec {l : List Cl} {done k : Nat} (h : freeK l done k = true) : done.testBit k = false ∧ ∀ i, i < l.length → (cl l i).to < (cl l k).fr → done.testBit i = true := by
  refine ⟨free_bit h, fun i hi hlt => ?_⟩
  unfold freeK at h
  simp only [Bool.and_eq_true, List.all_eq_true] at h
  have := h.2 i (by simpa using hi)
  simpa [hlt] using this
theorem free_mk {l : List Cl} {done k : Nat} (h1 : done.testBit k = false) (h2 : ∀ i, i < l.length → (cl l i).to < (cl l k).fr → done.testBit i = true) : freeK l done k = true := by
  unfold freeK
  simp only [Bool.and_eq_true, Bool.not_eq_true', List.all_eq_true]
  refine ⟨h1, fun i hi => ?_⟩
  have hi : i < l.length := by simpa using hi
  by_cases hlt : (cl l i).to < (cl l k).fr
  · simp [hlt, h2 i hi hlt]
  · simp [hlt]
/-- An order's calls: each one once; none that is left was over ahead. -/
theorem valid_new {l : List Cl} {ks : List Nat} {s : Ms} (h : Valid l 0 s ks) {j : Nat} (hj : j < ks.length) : ks[j] < l.length ∧ ks[j] ∉ ks.take j ∧ ∀ i, i < l.length → i ∉ ks.take j → ¬(cl l i).to < (cl l ks[j]).fr := by
  obtain ⟨h1, h2, _⟩ := valid_at ks 0 s h j hj
  obtain ⟨a, b⟩ := free_spec h2
  have bit : ∀ i, (doneOf 0 (ks.take j)).testBit i = decide (i ∈ ks.take j) := fun i => by rw [doneOf_bit]; simp
  rw [bit] at a
  refine ⟨h1, by simpa using a, fun i hi hn hlt => hn ?_⟩
  have := b i hi hlt
  rw [bit] at this
  simpa using this

/-- The calls of an order's beginning, by themselves, have an order. -/
theorem prefix_valid {l : List Cl} {ks : List Nat} {s : Ms} (h : Valid l 0 s ks) (m : Nat) (hm : m ≤ ks.length) : ∃ ks', Valid ((ks.take m).map (cl l)) 0 s ks' := by
  have plen : ((ks.take m).map (cl l)).length = m := by simp; omega
  have pcl : ∀ i, (hi : i < m) → cl ((ks.take m).map (cl l)) i = cl l (ks[i]'(Nat.lt_of_lt_of_le hi hm)) := by
    intro i hi
    have e : ((ks.take m).map (cl l))[i]? = some (cl l (ks[i]'(Nat.lt_of_lt_of_le hi hm))) := by
      rw [List.getElem?_map, List.getElem?_take, if_pos hi, List.getElem?_eq_getElem (by omega)]; rfl
    unfold cl at *
    rw [List.getD_eq_getElem?_getD, e]; rfl
  generalize (ks.take m).map (cl l) = P at plen pcl ⊢
  have key : ∀ q i, q + i = m → Valid P (2 ^ i - 1) (after l s (ks.take i)) (List.range' i q) := by
    intro q
    induction q with
    | zero =>
      intro i hi
      have : i = P.length := by omega
      subst this
      exact left_full
    | succ q ih =>
      intro i hi
      have hil : i < ks.length := by omega
      obtain ⟨h1, h2, h3⟩ := valid_at ks 0 s h i hil
      have nw := fun j (hj : j < ks.length) => valid_new h hj
      refine ⟨by omega, free_mk (by simp [Nat.testBit_two_pow_sub_one]) ?_, ?_, ?_⟩
      · intro i' hi' hlt
        rw [pcl i' (by omega), pcl i (by omega)] at hlt
        rw [Nat.testBit_two_pow_sub_one]
        by_cases hc : i' < i
        · simp [hc]
        · exfalso
          obtain ⟨a1, a2, a3⟩ := nw i hil
          obtain ⟨b1, b2, b3⟩ := nw i' (by omega)
          refine a3 _ b1 (fun hmem => b2 ?_) hlt
          have : ks.take i' = ks.take i ++ (ks.drop i).take (i' - i) := by
            rw [← List.take_add]; congr 1; omega
          rw [this]
          exact List.mem_append_left _ hmem
      · rw [pcl i (by omega)]; exact h3
      · have e1 : 2 ^ i - 1 ||| 2 ^ i = 2 ^ (i + 1) - 1 := by
          apply Nat.eq_of_testBit_eq
          intro x
          rw [testBit_or_pow, Nat.testBit_two_pow_sub_one, Nat.testBit_two_pow_sub_one]
          by_cases hx : x < i
          · simp [hx]; omega
          · by_cases hx2 : i = x
            · simp [hx2]
            · simp [hx, hx2]; omega
        have e2 : (after l s (ks.take i)).next (cl P i).event = after l s (ks.take (i + 1)) := by
          rw [pcl i (by omega), List.take_succ_eq_append_getElem hil]
          unfold after
          rw [List.foldl_append]; rfl
        rw [e1, e2]
        exact ih (i + 1) (by omega)
  refine ⟨_, key m 0 (by omega)⟩
/-- .. and are taken as they stand. -/
theorem prefix_serial {l : List Cl} {ks : List Nat} {s : Ms} (h : Valid l 0 s ks) (m j : Nat) (hm : m ≤ ks.length) (hj : j < m) : (((ks.take m).map (cl l)).take j |>.foldl (fun s c => s.next c.event) s).code (cl ((ks.take m).map (cl l)) j).event = 0 := by
  obtain ⟨_, _, h3⟩ := valid_at ks 0 s h j (by omega)
  have e1 : cl ((ks.take m).map (cl l)) j = cl l (ks[j]'(by omega)) := by
    have e : ((ks.take m).map (cl l))[j]? = some (cl l (ks[j]'(by omega))) := by
      rw [List.getElem?_map, List.getElem?_take, if_pos hj, List.getElem?_eq_getElem (by omega)]; rfl
    generalize (ks.take m).map (cl l) = P at e ⊢
    unfold cl at *
    rw [List.getD_eq_getElem?_getD, e]; rfl
  rw [e1, ← List.map_take, List.take_take, Nat.min_eq_left (by omega), List.foldl_map]
  exact h3

end Go.Ck
