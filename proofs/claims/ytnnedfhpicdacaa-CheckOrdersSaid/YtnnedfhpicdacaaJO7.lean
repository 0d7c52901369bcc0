/-
  Orders of calls, as plain values: the first one that can have been.
-/
import Derived.Test.YtnnedfhpicdacaaRows
import Derived.Test.YtnnedfhpicdacaaJO2
import Derived.Test.YtnnedfhpicdacaaJO3
import Derived.Test.YtnnedfhpicdacaaJO5
import Derived.Test.YtnnedfhpicdacaaJO6

set_option linter.unusedSimpArgs false
set_option linter.unusedVariables false
namespace Go.Ck
open Go Go.Md

structure Cl where
  event : Ev
  fr : Int
  to : Int
def cl0 : Cl := ⟨⟨0, 0, 0, 0, 0⟩, 0, 0⟩
def Cl.may (c : Cl) : Bool :=
  if decide (c.fr ≥ c.to) = true then false
  else if c.event.kind = 1 ∨ c.event.kind = 2 ∨ c.event.kind = 3 ∨ c.event.kind = 9 ∨ c.event.kind = 11 ∨ c.event.kind = 12 then true
  else if c.event.kind = 8 then c.event.arg == -1
  else if c.event.kind = 10 then c.event.err == 0
  else false

section
variable (l : List Cl)
def cl (k : Nat) : Cl := l.getD k cl0
/-- Whether a call may be the next one. -/
def freeK (done k : Nat) : Bool := !done.testBit k && (List.range l.length).all fun i => !decide ((cl l i).to < (cl l k).fr) || done.testBit i
def leftN (done : Nat) : Nat := ((List.range l.length).filter fun k => !done.testBit k).length
def srch : Nat → Nat → Ms → Option (List Nat)
  | 0, _, _ => some []
  | f + 1, done, s => (List.range l.length).findSome? fun k => if (freeK l done k && s.code (cl l k).event == 0) = true then (srch f (done ||| 2 ^ k) (s.next (cl l k).event)).map (k :: ·) else none
/-- An order of those that are left. -/
def Valid : Nat → Ms → List Nat → Prop
  | done, _, [] => leftN l done = 0
  | done, s, k :: ks => k < l.length ∧ freeK l done k = true ∧ s.code (cl l k).event = 0 ∧ Valid (done ||| 2 ^ k) (s.next (cl l k).event) ks
end

theorem testBit_or_pow (d k i : Nat) : (d ||| 2 ^ k).testBit i = (d.testBit i || decide (k = i)) := by
  rw [Nat.testBit_or, Nat.testBit_two_pow]

theorem left_or {l : List Cl} {done k : Nat} (hk : k < l.length) (hb : done.testBit k = false) : leftN l (done ||| 2 ^ k) + 1 = leftN l done := by
  unfold leftN
  have key : ∀ n, k < n → ((List.range n).filter fun i => !(done ||| 2 ^ k).testBit i).length + 1 = ((List.range n).filter fun i => !done.testBit i).length := by
    intro n
    induction n with
    | zero => intro h; omega
    | succ n ih =>
      intro h
      rw [List.range_succ, List.filter_append, List.filter_append, List.length_append, List.length_append]
      by_cases e : k = n
      · subst e
        have same : ((List.range k).filter fun i => !(done ||| 2 ^ k).testBit i) = (List.range k).filter fun i => !done.testBit i := by
          apply List.filter_congr
          intro i hi
          have : i < k := by simpa using hi
          rw [testBit_or_pow]
          have : decide (k = i) = false := by simp; omega
          rw [this, Bool.or_false]
        rw [same]
        simp [List.filter_cons, testBit_or_pow, hb]
      · have := ih (by omega)
        have e2 : (done ||| 2 ^ k).testBit n = done.testBit n := by rw [testBit_or_pow]; simp [e]
        simp only [List.filter_cons, List.filter_nil, e2]
        omega
  exact key _ hk
theorem left_zero {l : List Cl} {done : Nat} (h : leftN l done = 0) : ∀ k, k < l.length → done.testBit k = true := by
  intro k hk
  unfold leftN at h
  have := List.eq_nil_of_length_eq_zero h
  rw [List.filter_eq_nil_iff] at this
  have := this k (by simpa using hk)
  simpa using this
theorem left_full {l : List Cl} : leftN l (2 ^ l.length - 1) = 0 := by
  unfold leftN
  rw [List.length_eq_zero_iff, List.filter_eq_nil_iff]
  intro k hk
  have : k < l.length := by simpa using hk
  simp [Nat.testBit_two_pow_sub_one, this]
theorem full_of_left {l : List Cl} {done : Nat} (hd : done < 2 ^ l.length) (h : leftN l done = 0) : done = 2 ^ l.length - 1 := by
  apply Nat.eq_of_testBit_eq
  intro i
  rw [Nat.testBit_two_pow_sub_one]
  by_cases hi : i < l.length
  · simp [hi, left_zero h i hi]
  · simp only [hi, decide_false]
    apply Nat.testBit_lt_two_pow
    exact Nat.lt_of_lt_of_le hd (Nat.pow_le_pow_right (by decide) (by omega))
theorem left_pos {l : List Cl} {done : Nat} (hd : done < 2 ^ l.length) (h : done ≠ 2 ^ l.length - 1) : leftN l done ≠ 0 := fun h0 => h (full_of_left hd h0)
theorem or_lt {l : List Cl} {done k : Nat} (hd : done < 2 ^ l.length) (hk : k < l.length) : done ||| 2 ^ k < 2 ^ l.length := Nat.or_lt_two_pow hd (Nat.pow_lt_pow_right (by decide) hk)
theorem left_start (l : List Cl) : leftN l 0 = l.length := by
  unfold leftN
  rw [List.filter_eq_self.2 (by intro k _; simp)]
  simp

theorem free_bit {l : List Cl} {done k : Nat} (h : freeK l done k = true) : done.testBit k = false := by
  unfold freeK at h
  simp only [Bool.and_eq_true, Bool.not_eq_true'] at h
  exact h.1

theorem srch_valid {l : List Cl} : ∀ (f done : Nat) (s : Ms) (ks : List Nat), leftN l done = f → srch l f done s = some ks → Valid l done s ks := by
  intro f
  induction f with
  | zero => intro done s ks hf h; simp only [srch, Option.some.injEq] at h; subst h; exact hf
  | succ f ih =>
    intro done s ks hf h
    unfold srch at h
    obtain ⟨k, hk, hh⟩ := List.exists_of_findSome?_eq_some h
    have hk : k < l.length := by simpa using hk
    split at hh
    · rename_i hc
      simp only [Bool.and_eq_true, beq_iff_eq] at hc
      cases hr : srch l f (done ||| 2 ^ k) (s.next (cl l k).event) with
      | none => rw [hr] at hh; cases hh
      | some ks' =>
        rw [hr] at hh
        simp only [Option.map_some, Option.some.injEq] at hh
        subst hh
        have := left_or hk (free_bit hc.1)
        exact ⟨hk, hc.1, hc.2, ih _ _ _ (by omega) hr⟩
    · cases hh

theorem srch_some {l : List Cl} : ∀ (f done : Nat) (s : Ms) (ks : List Nat), leftN l done = f → Valid l done s ks → srch l f done s ≠ none := by
  intro f
  induction f with
  | zero => intro done s ks _ _; simp [srch]
  | succ f ih =>
    intro done s ks hf h
    cases ks with
    | nil => simp only [Valid] at h; omega
    | cons k ks =>
      obtain ⟨hk, hfr, hc, hv⟩ := h
      have := left_or hk (free_bit hfr)
      have hr := ih _ _ _ (by omega) hv
      unfold srch
      intro hn
      rw [List.findSome?_eq_none_iff] at hn
      have := hn k (by simpa using hk)
      rw [if_pos (by simp [hfr, hc])] at this
      cases hx : srch l f (done ||| 2 ^ k) (s.next (cl l k).event) with
      | none => exact hr hx
      | some r => rw [hx] at this; cases this

/-- What is done behind some calls. -/
def doneOf (d : Nat) (ks : List Nat) : Nat := ks.foldl (fun d k => d ||| 2 ^ k) d
def after (l : List Cl) (s : Ms) (ks : List Nat) : Ms := ks.foldl (fun s k => s.next (cl l k).event) s
theorem doneOf_bit (ks : List Nat) : ∀ (d i : Nat), (doneOf d ks).testBit i = (d.testBit i || decide (i ∈ ks)) := by
  induction ks with
  | nil => intro d i; simp [doneOf]
  | cons k ks ih =>
    intro d i
    show (doneOf (d ||| 2 ^ k) ks).testBit i = _
    rw [ih, testBit_or_pow]
    by_cases h1 : i = k
    · subst h1; simp
    · have : ¬k = i := fun h => h1 h.symm
      simp [h1, this]
theorem valid_at {l : List Cl} : ∀ (ks : List Nat) (d : Nat) (s : Ms), Valid l d s ks → ∀ j (hj : j < ks.length), ks[j] < l.length ∧ freeK l (doneOf d (ks.take j)) ks[j] = true ∧ (after l s (ks.take j)).code (cl l ks[j]).event = 0 := by
  intro ks
  induction ks with
  | nil => intro d s _ j hj; simp at hj
  | cons k ks ih =>
    intro d s h j hj
    obtain ⟨hk, hf, hc, hv⟩ := h
    cases j with
    | zero => exact ⟨hk, hf, hc⟩
    | succ j => exact ih _ _ hv j (by simpa using hj)
theorem free_spec {l : List Cl} {done k : Nat} (h : freeK l done k = true) : done.testBit k = false ∧ ∀ i, i < l.length → (cl l i).to < (cl l k).fr → done.testBit i = true := by
  refine ⟨free_bit h, fun i hi hlt => ?_⟩
  unfold freeK at h
  simp only [Bool.and_eq_true, List.all_eq_true] at h
  have := h.2 i (by simpa using hi)
  simpa [hlt] using this
theorem free_mk {l : List Cl} {done k : Nat} (h1 : done.testBit k = false) (h2 : ∀ i, i < l.length → (cl l i).to < (cl l k).fr → done.testBit i = true) : freeK l done k = true := by
  unfold freeK
  simp only [Bool.and_eq_true, Bool.not_eq_true', List.all_eq_true]
  refine ⟨h1, fun i hi => ?_⟩
  have hi : i < l.length := by simpa using hi
  by_cases hlt : (cl l i).to < (cl l k).fr
  · simp [hlt, h2 i hi hlt]
  · simp [hlt]
/-- An order's calls: each one once; none that is left was over ahead. -/
theorem valid_new {l : List Cl} {ks : List Nat} {s : Ms} (h : Valid l 0 s ks) {j : Nat} (hj : j < ks.length) : ks[j] < l.length ∧ ks[j] ∉ ks.take j ∧ ∀ i, i < l.length → i ∉ ks.take j → ¬(cl l i).to < (cl l ks[j]).fr := by
  obtain ⟨h1, h2, _⟩ := valid_at ks 0 s h j hj
  obtain ⟨a, b⟩ := free_spec h2
  have bit : ∀ i, (doneOf 0 (ks.take j)).testBit i = decide (i ∈ ks.take j) := fun i => by rw [doneOf_bit]; simp
  rw [bit] at a
  refine ⟨h1, by simpa using a, fun i hi hn hlt => hn ?_⟩
  have := b i hi hlt
  rw [bit] at this
  simpa using this

/-- The calls of an order's beginning, by themselves, have an order. -/
theorem prefix_valid {l : List Cl} {ks : List Nat} {s : Ms} (h : Valid l 0 s ks) (m : Nat) (hm : m ≤ ks.length) : ∃ ks', Valid ((ks.take m).map (cl l)) 0 s ks' := by
  have plen : ((ks.take m).map (cl l)).length = m := by simp; omega
  have pcl : ∀ i, (hi : i < m) → cl ((ks.take m).map (cl l)) i = cl l (ks[i]'(Nat.lt_of_lt_of_le hi hm)) := by
    intro i hi
    have e : ((ks.take m).map (cl l))[i]? = some (cl l (ks[i]'(Nat.lt_of_lt_of_le hi hm))) := by
      rw [List.getElem?_map, List.getElem?_take, if_pos hi, List.getElem?_eq_getElem (by omega)]; rfl
    unfold cl at *
    rw [List.getD_eq_getElem?_getD, e]; rfl
  generalize (ks.take m).map (cl l) = P at plen pcl ⊢
  have key : ∀ q i, q + i = m → Valid P (2 ^ i - 1) (after l s (ks.take i)) (List.range' i q) := by
    intro q
    induction q with
    | zero =>
      intro i hi
      have : i = P.length := by omega
      subst this
      exact left_full
    | succ q ih =>
      intro i hi
      have hil : i < ks.length := by omega
      obtain ⟨h1, h2, h3⟩ := valid_at ks 0 s h i hil
      have nw := fun j (hj : j < ks.length) => valid_new h hj
      refine ⟨by omega, free_mk (by simp [Nat.testBit_two_pow_sub_one]) ?_, ?_, ?_⟩
      · intro i' hi' hlt
        rw [pcl i' (by omega), pcl i (by omega)] at hlt
        rw [Nat.testBit_two_pow_sub_one]
        by_cases hc : i' < i
        · simp [hc]
        · exfalso
          obtain ⟨a1, a2, a3⟩ := nw i hil
          obtain ⟨b1, b2, b3⟩ := nw i' (by omega)
          refine a3 _ b1 (fun hmem => b2 ?_) hlt
          have : ks.take i' = ks.take i ++ (ks.drop i).take (i' - i) := by
            rw [← List.take_add]; congr 1; omega
          rw [this]
          exact List.mem_append_left _ hmem
      · rw [pcl i (by omega)]; exact h3
      · have e1 : 2 ^ i - 1 ||| 2 ^ i = 2 ^ (i + 1) - 1 := by
          apply Nat.eq_of_testBit_eq
          intro x
          rw [testBit_or_pow, Nat.testBit_two_pow_sub_one, Nat.testBit_two_pow_sub_one]
          by_cases hx : x < i
          · simp [hx]; omega
          · by_cases hx2 : i = x
            · simp [hx2]
            · simp [hx, hx2]; omega
        have e2 : (after l s (ks.take i)).next (cl P i).event = after l s (ks.take (i + 1)) := by
          rw [pcl i (by omega), List.take_succ_eq_append_getElem hil]
          unfold after
          rw [List.foldl_append]; rfl
        rw [e1, e2]
        exact ih (i + 1) (by omega)
  refine ⟨_, key m 0 (by omega)⟩
/-- .. and are taken as they stand. -/
theorem prefix_serial {l : List Cl} {ks : List Nat} {s : Ms} (h : Valid l 0 s ks) (m j : Nat) (hm : m ≤ ks.length) (hj : j < m) : (((ks.take m).map (cl l)).take j |>.foldl (fun s c => s.next c.event) s).code (cl ((ks.take m).map (cl l)) j).event = 0 := by
  obtain ⟨_, _, h3⟩ := valid_at ks 0 s h j (by omega)
  have e1 : cl ((ks.take m).map (cl l)) j = cl l (ks[j]'(by omega)) := by
    have e : ((ks.take m).map (cl l))[j]? = some (cl l (ks[j]'(by omega))) := by
      rw [List.getElem?_map, List.getElem?_take, if_pos hj, List.getElem?_eq_getElem (by omega)]; rfl
    generalize (ks.take m).map (cl l) = P at e ⊢
    unfold cl at *
    rw [List.getD_eq_getElem?_getD, e]; rfl
  rw [e1, ← List.map_take, List.take_take, Nat.min_eq_left (by omega), List.foldl_map]
  exact h3

end Go.Ck

/-
  What is asked of a model.
-/
set_option linter.unusedSimpArgs false
set_option linter.unusedVariables false
namespace Go.Md
open Go Go.Sx Go.Proofs Go.Proofs.Ytnnedfhpicdacaa

def moA (m : Mo) : Value := .agg #[.int .i64 m.owner, .int .i64 m.count, .int .i64 m.hash]
/-- An object's monitor; that of none is nobody's. -/
def Ms.at (s : Ms) (o : Int) : Mo := if s.isObj o then s.mon o else ⟨-1, 0, 0⟩

theorem meets_at {h : PH} {L : ML} {s : Ms} (r : MRep h L s) (o : Int) : Meets Try.prog 58 #[mp L, .int .i64 o] h fun v h' => v = moA (s.at o) ∧ h' = h := by
  apply Meets.same
  apply P_model_Model_at_of
  unfold P_model_Model_at
  intro b nb
  obtain ⟨d1, d2, d3, d4, d5⟩ := r.off nb
  obtain ⟨c, c', cm⟩ := r.cm
  obtain ⟨j, co⟩ := r.co
  have l : h.le _ := PH.le_upd (O := .cells #[.int .i64 0, .int .i64 0, .int .i64 0] 117 (0, 0)) nb
  refine (meets_ok (r.new nb)).look ?_
  simp only [oB_some]
  refine xSc_or (!s.isObj o) (fun _ J hJ => ?_) ⟨fun hx => ?_, fun hx => ?_⟩
  · simp only [xNn_some, add_mk, cell_mk, upd_at, del_at, if_true, if_false, Option.bind_some, List.getElem?_toArray, List.getElem?_cons_succ, List.getElem?_cons_zero, oI_some, oS_some, oM_some, oB_some, oP_some, oT_some, xIdx_some, Nat.zero_add, Nat.add_zero, Nat.mul_one, d1, cm, wrap_len r.nm]
    refine (meets_in _ _ _).look ?_
    simp only [xNn_some, add_mk, cell_mk, upd_at, del_at, if_true, if_false, Option.bind_some, List.getElem?_toArray, List.getElem?_cons_succ, List.getElem?_cons_zero, oI_some, oS_some, oM_some, oB_some, oP_some, oT_some, xIdx_some, Nat.zero_add, Nat.add_zero, Nat.mul_one]
    exact hJ
  · refine xSt_mk (PH.upd_same _ _ _) rfl (by decide) (by simp [oneCell]) (by simp) ?_
    rw [PH.upd_upd, setN3]
    simp only [xNn_some, add_mk, cell_mk, upd_at, del_at, if_true, if_false, Option.bind_some, List.getElem?_toArray, List.getElem?_cons_succ, List.getElem?_cons_zero, oI_some, oS_some, oM_some, oB_some, oP_some, oT_some, xIdx_some, Nat.zero_add, Nat.add_zero, Nat.mul_one]
    have : s.isObj o = false := by simpa using hx
    exact ⟨by simp only [Ms.at, this, if_false, Bool.false_eq_true]; rfl, PH.le_upd nb⟩
  · have hi : s.isObj o = true := by simpa using hx
    have h0 : 0 ≤ o ∧ o < (s.mons.length : Int) ∧ o.toNat < s.mons.length := by
      simp only [Ms.isObj, Bool.and_eq_true, decide_eq_true_eq] at hi
      omega
    simp only [xNn_some, add_mk, cell_mk, upd_at, del_at, if_true, if_false, Option.bind_some, List.getElem?_toArray, List.getElem?_cons_succ, List.getElem?_cons_zero, oI_some, oS_some, oM_some, oB_some, oP_some, oT_some, xIdx_some, Nat.zero_add, Nat.add_zero, Nat.mul_one, d1, cm]
    refine ⟨h0.1, h0.2.1, ?_⟩
    simp only [xNn_some, add_mk, cell_mk, upd_at, del_at, if_true, if_false, Option.bind_some, List.getElem?_toArray, List.getElem?_cons_succ, List.getElem?_cons_zero, oI_some, oS_some, oM_some, oB_some, oP_some, oT_some, xIdx_some, Nat.zero_add, Nat.add_zero, Nat.mul_one, d2, co, moArr_0 h0.2.2, moArr_1 h0.2.2, moArr_2 h0.2.2]
    refine xSt_mk (PH.upd_same _ _ _) rfl (by decide) (by simp [oneCell]) (by simp) ?_
    rw [PH.upd_upd, setN3]
    simp only [xNn_some, add_mk, cell_mk, upd_at, del_at, if_true, if_false, Option.bind_some, List.getElem?_toArray, List.getElem?_cons_succ, List.getElem?_cons_zero, oI_some, oS_some, oM_some, oB_some, oP_some, oT_some, xIdx_some, Nat.zero_add, Nat.add_zero, Nat.mul_one]
    exact ⟨by simp only [Ms.at, hi, if_true]; rfl, PH.le_upd nb⟩

theorem meets_Owner {h : PH} {L : ML} {s : Ms} (r : MRep h L s) (o : Int) : Meets Try.prog 18 #[mp L, .int .i64 o] h fun v h' => v = .int .i64 (s.at o).owner ∧ h' = h := by
  apply P_model_Model_Owner_of
  unfold P_model_Model_Owner
  refine (meets_at r o).look ?_
  simp only [moA, oAgg_mk, xNn_some, add_mk, cell_mk, upd_at, del_at, if_true, if_false, Option.bind_some, List.getElem?_toArray, List.getElem?_cons_succ, List.getElem?_cons_zero, oI_some, oS_some, oM_some, oB_some, oP_some, oT_some, xIdx_some, Nat.zero_add, Nat.add_zero, Nat.mul_one]
  simp
theorem meets_Count {h : PH} {L : ML} {s : Ms} (r : MRep h L s) (o : Int) : Meets Try.prog 19 #[mp L, .int .i64 o] h fun v h' => v = .int .i64 (s.at o).count ∧ h' = h := by
  apply P_model_Model_Count_of
  unfold P_model_Model_Count
  refine (meets_at r o).look ?_
  simp only [moA, oAgg_mk, xNn_some, add_mk, cell_mk, upd_at, del_at, if_true, if_false, Option.bind_some, List.getElem?_toArray, List.getElem?_cons_succ, List.getElem?_cons_zero, oI_some, oS_some, oM_some, oB_some, oP_some, oT_some, xIdx_some, Nat.zero_add, Nat.add_zero, Nat.mul_one]
  simp
theorem meets_Hash {h : PH} {L : ML} {s : Ms} (r : MRep h L s) (o : Int) : Meets Try.prog 21 #[mp L, .int .i64 o] h fun v h' => v = .int .i64 (s.at o).hash ∧ h' = h := by
  apply P_model_Model_Hash_of
  unfold P_model_Model_Hash
  refine (meets_at r o).look ?_
  simp only [moA, oAgg_mk, xNn_some, add_mk, cell_mk, upd_at, del_at, if_true, if_false, Option.bind_some, List.getElem?_toArray, List.getElem?_cons_succ, List.getElem?_cons_zero, oI_some, oS_some, oM_some, oB_some, oP_some, oT_some, xIdx_some, Nat.zero_add, Nat.add_zero, Nat.mul_one]
  simp
theorem meets_Flag {h : PH} {L : ML} {s : Ms} (r : MRep h L s) (t : Int) : Meets Try.prog 17 #[mp L, .int .i64 t] h fun v h' => v = .bool (s.isThread t && s.flag t) ∧ h' = h := by
  apply P_model_Model_Flag_of
  unfold P_model_Model_Flag
  obtain ⟨c, c', cm⟩ := r.cm
  obtain ⟨j, cf⟩ := r.cf
  refine (meets_ok r).look ?_
  simp only [oB_some]
  refine xSc_and (s.isThread t) (fun _ J hJ => ?_) ?_
  · refine (meets_isThread r t).look ?_
    simp only [oB_some]
    exact hJ
  refine xSc_and (s.flag t) (fun hx J hJ => ?_) ⟨by simp, rfl⟩
  have hi : s.isThread t = true := by simpa using hx
  have h0 : 0 ≤ t ∧ t < (s.flags.length : Int) ∧ t.toNat < s.flags.length := by
    simp only [Ms.isThread, Bool.and_eq_true, decide_eq_true_eq] at hi
    omega
  simp only [xNn_some, add_mk, cell_mk, upd_at, del_at, if_true, if_false, Option.bind_some, List.getElem?_toArray, List.getElem?_cons_succ, List.getElem?_cons_zero, oI_some, oS_some, oM_some, oB_some, oP_some, oT_some, xIdx_some, Nat.zero_add, Nat.add_zero, Nat.mul_one, cm, cf, flArr_get h0.2.2]
  exact ⟨h0.1, h0.2.1, hJ⟩

end Go.Md

/-
  Two models of the same value are the same.
-/
set_option linter.unusedSimpArgs false
set_option linter.unusedVariables false
namespace Go.Md
open Go Go.Sx Go.Proofs Go.Proofs.Ytnnedfhpicdacaa

theorem meets_equal_mons {h : PH} {a b : Nat} {l : List Mo} {j j' : List Value} {c c' : Nat} (ha : h a = some (.cells (moArr l j) 117 (0, 0))) (hb : h b = some (.cells (moArr l j') 117 (0, 0))) (h8 : l.length ≤ 8) :
    Meets Try.prog 53 #[.slice (some ⟨a, 0, none⟩) l.length c, .slice (some ⟨b, 0, none⟩) l.length c'] h fun v h' => v = .bool true ∧ h' = h := by
  apply P_slices_Equal_model_monitor_model_monitor_of
  unfold P_slices_Equal_model_monitor_model_monitor
  refine ⟨fun hx => ?_, fun _ => ?_⟩
  · simp at hx
  refine xLoop1 (fun (x : Int) h' => h' = h ∧ 0 ≤ x ∧ x ≤ l.length) (fun (x : Int) _ => ((l.length : Int) - x).toNat) ?_ ⟨rfl, by omega, by omega⟩
  rintro J x _ ⟨rfl, x0, x1⟩ hJ
  refine ⟨fun hc => ?_, fun hc => ⟨rfl, rfl⟩⟩
  have hc := of_decide_eq_true hc
  have hn : x.toNat < l.length := by omega
  have hw : IntKind.wrap .i64 (x + 1) = x + 1 := wrap64_id (by omega) (by omega)
  have hmu : ((l.length : Int) - (x + 1)).toNat < ((l.length : Int) - x).toNat := by omega
  have x0' : 0 ≤ x + 1 := by omega
  have x1' : x + 1 ≤ l.length := by omega
  refine xDraw_self ?_
  simp only [xNn_some, add_mk, cell_mk, upd_at, del_at, if_true, if_false, Option.bind_some, List.getElem?_toArray, List.getElem?_cons_succ, List.getElem?_cons_zero, oI_some, oS_some, oM_some, oB_some, oP_some, oT_some, xIdx_some, Nat.zero_add, Nat.add_zero, Nat.mul_one, ha, hb, moArr_0 hn, moArr_1 hn, moArr_2 hn]
  refine ⟨x0, hc, x0, hc, true, ?_, fun hx => (by cases hx), fun _ => ?_⟩
  · have := eqLaw_ints (P := Try.prog) (t := 117) [.i64, .i64, .i64] [(l.getD x.toNat ⟨-1, 0, 0⟩).owner, (l.getD x.toNat ⟨-1, 0, 0⟩).count, (l.getD x.toNat ⟨-1, 0, 0⟩).hash] [(l.getD x.toNat ⟨-1, 0, 0⟩).owner, (l.getD x.toNat ⟨-1, 0, 0⟩).count, (l.getD x.toNat ⟨-1, 0, 0⟩).hash] (by kernel_rfl) rfl rfl
    rw [show ([(l.getD x.toNat ⟨-1, 0, 0⟩).owner, (l.getD x.toNat ⟨-1, 0, 0⟩).count, (l.getD x.toNat ⟨-1, 0, 0⟩).hash] == [(l.getD x.toNat ⟨-1, 0, 0⟩).owner, (l.getD x.toNat ⟨-1, 0, 0⟩).count, (l.getD x.toNat ⟨-1, 0, 0⟩).hash]) = true from by simp] at this
    exact this
  · rw [hw]
    exact hJ _ _ ⟨rfl, x0', x1'⟩ hmu

theorem meets_equal_flags {h : PH} {a b : Nat} {l : List Bool} {j j' : List Value} {c c' : Nat} (ha : h a = some (.cells (flArr l j) 4 (0, 0))) (hb : h b = some (.cells (flArr l j') 4 (0, 0))) (h8 : l.length ≤ 8) :
    Meets Try.prog 54 #[.slice (some ⟨a, 0, none⟩) l.length c, .slice (some ⟨b, 0, none⟩) l.length c'] h fun v h' => v = .bool true ∧ h' = h := by
  apply P_slices_Equal_bool_bool_of
  unfold P_slices_Equal_bool_bool
  refine ⟨fun hx => ?_, fun _ => ?_⟩
  · simp at hx
  refine xLoop1 (fun (x : Int) h' => h' = h ∧ 0 ≤ x ∧ x ≤ l.length) (fun (x : Int) _ => ((l.length : Int) - x).toNat) ?_ ⟨rfl, by omega, by omega⟩
  rintro J x _ ⟨rfl, x0, x1⟩ hJ
  refine ⟨fun hc => ?_, fun hc => ⟨rfl, rfl⟩⟩
  have hc := of_decide_eq_true hc
  have hn : x.toNat < l.length := by omega
  have hw : IntKind.wrap .i64 (x + 1) = x + 1 := wrap64_id (by omega) (by omega)
  have hmu : ((l.length : Int) - (x + 1)).toNat < ((l.length : Int) - x).toNat := by omega
  have x0' : 0 ≤ x + 1 := by omega
  have x1' : x + 1 ≤ l.length := by omega
  refine xDraw_self ?_
  simp only [xNn_some, add_mk, cell_mk, upd_at, del_at, if_true, if_false, Option.bind_some, List.getElem?_toArray, List.getElem?_cons_succ, List.getElem?_cons_zero, oI_some, oS_some, oM_some, oB_some, oP_some, oT_some, xIdx_some, Nat.zero_add, Nat.add_zero, Nat.mul_one, ha, hb, flArr_get hn]
  refine ⟨x0, hc, x0, hc, fun hx => ?_, fun _ => ?_⟩
  · simp at hx
  · rw [hw]
    exact hJ _ _ ⟨rfl, x0', x1'⟩ hmu

theorem meets_equal_waits {h : PH} {a b : Nat} {l : Pl (Int)} (ra : MapRep encI h a l) (rb : MapRep encI h b l) (ho : Pl.Once l) : Meets Try.prog 55 #[.map (some a), .map (some b)] h fun v h' => v = .bool true ∧ h' = h := by
  apply Meets.same
  have rb' := rb
  obtain ⟨es, cl, ea, en, st⟩ := ra
  obtain ⟨es', cl', eb, en', st'⟩ := rb
  have hlen : es.size = es'.size := by
    have h1 := congrArg List.length en
    have h2 := congrArg List.length en'
    simp at h1 h2; omega
  apply P_maps_Equal_map_model_place_int_map_model_place_int_model_place_int_of
  unfold P_maps_Equal_map_model_place_int_map_model_place_int_model_place_int
  refine .inl ⟨a, es, cl, rfl, ea, .inl ⟨b, es', cl', rfl, eb, ⟨fun hx => ?_, fun _ => ?_⟩⟩⟩
  · rw [hlen] at hx; simp at hx
  refine ⟨a, es, cl, rfl, ea, fun bi nbi => ?_⟩
  refine xLoop0 (fun h' => h.le h' ∧ ∃ seen : Array Nat, h' bi = some (.mapIter (some a) cl seen cl)) (fun h' => match h' bi with | some (.mapIter _ _ seen _) => leftOf es.toList seen | _ => 0) ?_ ⟨PH.le_upd nbi, #[], PH.upd_same _ _ _⟩
  rintro J h1 ⟨l1, seen, ei⟩ hJ
  refine ⟨a, cl, seen, cl, es, cl, ei, l1 _ _ ea, fun _ hne => st.all hne, fun hov => ?_, fun e he hs => ?_⟩
  · refine ⟨_, rfl, fun hx => (by cases hx), fun _ => ?_⟩
    exact ⟨rfl, l1⟩
  · refine ⟨_, rfl, fun _ => ?_, fun hx => (by cases hx)⟩
    have he' : e ∈ es.toList := by simpa using he
    obtain ⟨p, hp, hk, hv⟩ := en.mem he'
    have l2 : h.le (h1.upd bi (.mapIter (some a) cl (seen.push e.born) cl)) := upd_le_upd nbi l1
    have ei2 := PH.upd_same h1 bi (.mapIter (some a) cl (seen.push e.born) cl)
    have less := left_push he' hs
    generalize h1.upd bi (.mapIter (some a) cl (seen.push e.born) cl) = h2 at l2 ei2 ⊢
    refine ⟨a, cl, seen.push e.born, cl, es, e, e.born, ei2, back_push _ _, l2 _ _ ea, ?_, ?_⟩
    · have := st.find he'
      simpa using this
    rw [hk, hv]
    simp only [key2, encI, oAgg_mk, xNn_some, add_mk, cell_mk, upd_at, del_at, if_true, if_false, Option.bind_some, List.getElem?_toArray, List.getElem?_cons_succ, List.getElem?_cons_zero, oI_some, oS_some, oM_some, oB_some, oP_some, oT_some, xIdx_some, Nat.zero_add, Nat.add_zero, Nat.mul_one]
    refine ⟨rfl, ?_⟩
    intro b5 n5
    refine xSt_mk (PH.upd_same _ _ _) rfl (by decide) (by simp [oneCell]) (by simp) ?_
    rw [PH.upd_upd, setN2]
    have l3 := PH.le_upd (O := .cells #[.int .i64 p.1, .int .i64 p.2.1] 122 (0, 0)) n5
    have e3 := PH.upd_same h2 b5 (.cells #[.int .i64 p.1, .int .i64 p.2.1] 122 (0, 0))
    generalize h2.upd b5 (.cells #[.int .i64 p.1, .int .i64 p.2.1] 122 (0, 0)) = h3 at l3 e3 ⊢
    have l4 := PH.le_trans l2 l3
    simp only [xNn_some, add_mk, cell_mk, upd_at, del_at, if_true, if_false, Option.bind_some, List.getElem?_toArray, List.getElem?_cons_succ, List.getElem?_cons_zero, oI_some, oS_some, oM_some, oB_some, oP_some, oT_some, xIdx_some, Nat.zero_add, Nat.add_zero, Nat.mul_one, e3]
    refine look_rep (MapRep.of rb' (by rw [eb]; exact l4 _ _ eb)) p.1 p.2.1 ?_
    rw [Pl.find_mem ho hp]
    simp only [Option.map_some, Option.getD_some, encI, Option.isSome_some, xNn_some, add_mk, cell_mk, upd_at, del_at, if_true, if_false, Option.bind_some, List.getElem?_toArray, List.getElem?_cons_succ, List.getElem?_cons_zero, oI_some, oS_some, oM_some, oB_some, oP_some, oT_some, xIdx_some, Nat.zero_add, Nat.add_zero, Nat.mul_one]
    refine xSc_or false (fun _ J hJ => ?_) ⟨fun hx => (by cases hx), fun _ => ?_⟩
    · simpa using hJ
    refine hJ _ ⟨l4, seen.push e.born, l3 _ _ ei2⟩ ?_
    rw [l3 _ _ ei2, ei]
    exact less


theorem meets_equal_left {h : PH} {a b : Nat} {l : Pl (Int × Int)} (ra : MapRep encL h a l) (rb : MapRep encL h b l) (ho : Pl.Once l) : Meets Try.prog 56 #[.map (some a), .map (some b)] h fun v h' => v = .bool true ∧ h' = h := by
  apply Meets.same
  have rb' := rb
  obtain ⟨es, cl, ea, en, st⟩ := ra
  obtain ⟨es', cl', eb, en', st'⟩ := rb
  have hlen : es.size = es'.size := by
    have h1 := congrArg List.length en
    have h2 := congrArg List.length en'
    simp at h1 h2; omega
  apply P_maps_Equal_map_model_place_model_left_map_model_place_model_left_model_place_model_left_of
  unfold P_maps_Equal_map_model_place_model_left_map_model_place_model_left_model_place_model_left
  refine .inl ⟨a, es, cl, rfl, ea, .inl ⟨b, es', cl', rfl, eb, ⟨fun hx => ?_, fun _ => ?_⟩⟩⟩
  · rw [hlen] at hx; simp at hx
  refine ⟨a, es, cl, rfl, ea, fun bi nbi => ?_⟩
  refine xLoop0 (fun h' => h.le h' ∧ ∃ seen : Array Nat, h' bi = some (.mapIter (some a) cl seen cl)) (fun h' => match h' bi with | some (.mapIter _ _ seen _) => leftOf es.toList seen | _ => 0) ?_ ⟨PH.le_upd nbi, #[], PH.upd_same _ _ _⟩
  rintro J h1 ⟨l1, seen, ei⟩ hJ
  refine ⟨a, cl, seen, cl, es, cl, ei, l1 _ _ ea, fun _ hne => st.all hne, fun hov => ?_, fun e he hs => ?_⟩
  · refine ⟨_, rfl, fun hx => (by cases hx), fun _ => ?_⟩
    exact ⟨rfl, l1⟩
  · refine ⟨_, rfl, fun _ => ?_, fun hx => (by cases hx)⟩
    have he' : e ∈ es.toList := by simpa using he
    obtain ⟨p, hp, hk, hv⟩ := en.mem he'
    have l2 : h.le (h1.upd bi (.mapIter (some a) cl (seen.push e.born) cl)) := upd_le_upd nbi l1
    have ei2 := PH.upd_same h1 bi (.mapIter (some a) cl (seen.push e.born) cl)
    have less := left_push he' hs
    generalize h1.upd bi (.mapIter (some a) cl (seen.push e.born) cl) = h2 at l2 ei2 ⊢
    refine ⟨a, cl, seen.push e.born, cl, es, e, e.born, ei2, back_push _ _, l2 _ _ ea, ?_, ?_⟩
    · have := st.find he'
      simpa using this
    rw [hk, hv]
    simp only [key2, encL, oAgg_mk, xNn_some, add_mk, cell_mk, upd_at, del_at, if_true, if_false, Option.bind_some, List.getElem?_toArray, List.getElem?_cons_succ, List.getElem?_cons_zero, oI_some, oS_some, oM_some, oB_some, oP_some, oT_some, xIdx_some, Nat.zero_add, Nat.add_zero, Nat.mul_one]
    refine ⟨rfl, rfl, ?_⟩
    intro b5 n5
    intro b6 n6
    obtain ⟨q56, n6'⟩ := upd_none n6
    refine xSt_mk ((PH.upd_ne _ _ q56).trans (PH.upd_same _ _ _)) rfl (by decide) (by simp [oneCell]) (by simp) ?_
    rw [setN2]
    have l3 : h2.le (((h2.upd b5 (.cells #[.int .i64 0, .int .i64 0] 122 (0, 0))).upd b6 (.cells #[.int .i64 0, .int .i64 0] 125 (0, 0))).upd b5 (.cells #[.int .i64 p.1, .int .i64 p.2.1] 122 (0, 0))) := upd_le_upd n5 (upd_le_upd n6' (PH.le_upd n5))
    have e5 := PH.upd_same ((h2.upd b5 (.cells #[.int .i64 0, .int .i64 0] 122 (0, 0))).upd b6 (.cells #[.int .i64 0, .int .i64 0] 125 (0, 0))) b5 (.cells #[.int .i64 p.1, .int .i64 p.2.1] 122 (0, 0))
    have e6 : (((h2.upd b5 (.cells #[.int .i64 0, .int .i64 0] 122 (0, 0))).upd b6 (.cells #[.int .i64 0, .int .i64 0] 125 (0, 0))).upd b5 (.cells #[.int .i64 p.1, .int .i64 p.2.1] 122 (0, 0))) b6 = some (.cells #[.int .i64 0, .int .i64 0] 125 (0, 0)) := (PH.upd_ne _ _ (Ne.symm q56)).trans (PH.upd_same _ _ _)
    generalize (((h2.upd b5 (.cells #[.int .i64 0, .int .i64 0] 122 (0, 0))).upd b6 (.cells #[.int .i64 0, .int .i64 0] 125 (0, 0))).upd b5 (.cells #[.int .i64 p.1, .int .i64 p.2.1] 122 (0, 0))) = h3 at l3 e5 e6 ⊢
    refine xSt_mk e6 rfl (by decide) (by simp [oneCell]) (by simp) ?_
    rw [setN2]
    have l3 := PH.le_trans l3 (show h3.le h3 from PH.le_refl _)
    have l4 : h2.le (h3.upd b6 (.cells #[.int .i64 p.2.2.1, .int .i64 p.2.2.2] 125 (0, 0))) := upd_le_upd n6' l3
    have e5' : (h3.upd b6 (.cells #[.int .i64 p.2.2.1, .int .i64 p.2.2.2] 125 (0, 0))) b5 = _ := (PH.upd_ne _ _ q56).trans e5
    have e6' := PH.upd_same h3 b6 (.cells #[.int .i64 p.2.2.1, .int .i64 p.2.2.2] 125 (0, 0))
    generalize h3.upd b6 (.cells #[.int .i64 p.2.2.1, .int .i64 p.2.2.2] 125 (0, 0)) = h4 at l4 e5' e6' ⊢
    have l5 := PH.le_trans l2 l4
    simp only [xNn_some, add_mk, cell_mk, upd_at, del_at, if_true, if_false, Option.bind_some, List.getElem?_toArray, List.getElem?_cons_succ, List.getElem?_cons_zero, oI_some, oS_some, oM_some, oB_some, oP_some, oT_some, xIdx_some, Nat.zero_add, Nat.add_zero, Nat.mul_one, e5']
    refine look_rep (MapRep.of rb' (by rw [eb]; exact l5 _ _ eb)) p.1 p.2.1 ?_
    rw [Pl.find_mem ho hp]
    simp only [Option.map_some, Option.getD_some, Option.isSome_some, encL, oAgg_mk, xNn_some, add_mk, cell_mk, upd_at, del_at, if_true, if_false, Option.bind_some, List.getElem?_toArray, List.getElem?_cons_succ, List.getElem?_cons_zero, oI_some, oS_some, oM_some, oB_some, oP_some, oT_some, xIdx_some, Nat.zero_add, Nat.add_zero, Nat.mul_one]
    refine ⟨rfl, rfl, ?_⟩
    intro b7 n7
    refine xSt_mk (PH.upd_same _ _ _) rfl (by decide) (by simp [oneCell]) (by simp) ?_
    rw [PH.upd_upd, setN2]
    have l6 := PH.le_upd (O := .cells #[.int .i64 p.2.2.1, .int .i64 p.2.2.2] 125 (0, 0)) n7
    have e7 := PH.upd_same h4 b7 (.cells #[.int .i64 p.2.2.1, .int .i64 p.2.2.2] 125 (0, 0))
    generalize h4.upd b7 (.cells #[.int .i64 p.2.2.1, .int .i64 p.2.2.2] 125 (0, 0)) = h5 at l6 e7 ⊢
    refine xSc_or false (fun _ J hJ => ?_) ⟨fun hx => (by cases hx), fun _ => ?_⟩
    · simp only [xNn_some, add_mk, cell_mk, upd_at, del_at, if_true, if_false, Option.bind_some, List.getElem?_toArray, List.getElem?_cons_succ, List.getElem?_cons_zero, oI_some, oS_some, oM_some, oB_some, oP_some, oT_some, xIdx_some, Nat.zero_add, Nat.add_zero, Nat.mul_one, e7, l6 _ _ e6']
      refine ⟨true, ?_, hJ⟩
      have := eqLaw_ints (P := Try.prog) (t := 125) [.i64, .i64] [p.2.2.1, p.2.2.2] [p.2.2.1, p.2.2.2] (by kernel_rfl) rfl rfl
      rw [show ([p.2.2.1, p.2.2.2] == [p.2.2.1, p.2.2.2]) = true from by simp] at this
      exact this
    have ei5 := l6 _ _ (l4 _ _ ei2)
    refine hJ _ ⟨PH.le_trans l5 l6, seen.push e.born, ei5⟩ ?_
    rw [ei5, ei]
    exact less

theorem meets_Same {h : PH} {L L' : ML} {s : Ms} (r : MRep h L s) (r' : MRep h L' s) (ho : s.Once) : Meets Try.prog 16 #[mp L, mp L'] h fun v h' => v = .bool true ∧ h' = h := by
  apply P_model_Model_Same_of
  unfold P_model_Model_Same
  obtain ⟨c1, c2, cm⟩ := r.cm
  obtain ⟨c3, c4, cm'⟩ := r'.cm
  obtain ⟨j1, co⟩ := r.co
  obtain ⟨j2, co'⟩ := r'.co
  obtain ⟨j3, cf⟩ := r.cf
  obtain ⟨j4, cf'⟩ := r'.cf
  refine (meets_ok r).look ?_
  simp only [oB_some]
  refine xSc_or false (fun _ J hJ => ?_) ⟨fun hx => (by cases hx), fun _ => ?_⟩
  · refine (meets_ok r').look ?_
    simp only [oB_some]
    exact hJ
  refine xDraw_self ?_
  simp only [xNn_some, add_mk, cell_mk, upd_at, del_at, if_true, if_false, Option.bind_some, List.getElem?_toArray, List.getElem?_cons_succ, List.getElem?_cons_zero, oI_some, oS_some, oM_some, oB_some, oP_some, oT_some, xIdx_some, Nat.zero_add, Nat.add_zero, Nat.mul_one, cm, cm']
  refine xSc_and true (fun _ J hJ => ?_) ?_
  · refine (meets_equal_mons co co' r.nm).look ?_
    simp only [oB_some]
    exact ⟨PH.le_refl _, hJ⟩
  refine xSc_and true (fun _ J hJ => ?_) ?_
  · refine (meets_equal_flags cf cf' r.nf).look ?_
    simp only [oB_some]
    exact ⟨PH.le_refl _, hJ⟩
  refine xSc_and true (fun _ J hJ => ?_) ?_
  · refine (meets_equal_waits r.cw r'.cw ho.w).look ?_
    simp only [oB_some]
    exact ⟨PH.le_refl _, hJ⟩
  refine xSc_and true (fun _ J hJ => ?_) ?_
  · refine (meets_equal_left r.cl r'.cl ho.l).look ?_
    simp only [oB_some]
    exact ⟨PH.le_refl _, hJ⟩
  exact ⟨by simp, rfl⟩

end Go.Md

/- The readings of some functions, printed by a program of the session (wip/tools/sx.py): each by one equation that the kernel reckons. -/
set_option linter.unusedVariables false
namespace Go.Proofs.Ytnnedfhpicdacaa
open Go Go.Sx Go.Proofs
/-- futtock/futtocklaw14.ModelErrors -/
def A_law14_ModelErrors : Ann := .seq (.leaf) (.seq (.leaf) (.seq (.seq (.leaf) (.cond [] (.seq (.leaf) (.leaf)) (.leaf))) (.seq (.seq (.leaf) (.block [] (.loop [(23, (.int .i64))] (.seq (.leaf) (.seq (.cond [] (.leaf) (.leaf)) (.seq (.block [] (.seq (.leaf) (.seq (.leaf) (.seq (.leaf) (.seq (.leaf) (.seq (.seq (.leaf) (.cond [] (.seq (.leaf) (.leaf)) (.leaf))) (.seq (.draw [(0, .flt), (1, .flt), (2, .flt), (3, .flt), (4, .flt), (5, .flt), (6, .flt), (7, .flt), (8, .flt), (9, .flt), (10, .flt), (11, .flt), (12, .flt), (13, .flt), (14, .flt), (15, .flt), (16, .eff), (17, .flt), (18, .flt), (19, .flt), (20, .flt), (21, .flt), (22, .eff), (23, .flt), (24, .flt), (25, .flt), (26, .flt), (27, .flt), (29, .flt), (30, .flt), (31, .flt), (28, .eff), (32, .eff), (33, .flt), (34, .flt), (35, .flt), (36, .flt), (37, .flt), (38, .flt), (40, .flt), (41, .flt), (42, .flt), (39, .eff), (43, .eff), (44, .flt), (45, .flt), (46, .flt)]) (.cond [] (.seq (.leaf) (.leaf)) (.leaf))))))))) (.leaf))))))) (.seq (.leaf) (.leaf)))))
def P_law14_ModelErrors (a0a : Option Addr) (a0l : Nat) (a0c : Nat) (h : PH) (Q : Value → PH → Prop) : Prop :=
 Meets Try.prog 11 #[(.int .i64 4), (.int .i64 3), (.int .i64 3)] h fun v11 h_1 =>
 oTup v11 2 fun x11cs =>
 oIx x11cs[0]? fun x11w =>
 oP (some x11w) fun x11_0 =>
 oIx x11cs[1]? fun x11w_1 =>
 oI .i64 (some x11w_1) fun x11_1 =>
 oP (some (.pointer x11_0)) fun x12 =>
 oI .i64 (some (.int .i64 x11_1)) fun x13 =>
 xSc (Option.isNone x12) false (fun J_1 =>
 J_1 (x13 != 0) h_1)
 (fun r19 h_2 =>
 xIte r19 (fun J_2 =>
 Q (.bool false) h_2)
 (fun J_2 =>
 J_2 h_2)
 (fun  (h_3 : PH) =>
 Meets Try.prog 12 #[(.slice a0a a0l a0c)] h_3 fun v21 h_4 =>
 oS (some v21) fun x21a x21l x21c =>
 xBlk (fun J_3 =>
 ∃ n, xLoopN (fun _ _ => False) (fun J_4 =>
 (fun (x23 : Int) (h_5 : PH) =>
 xIte (decide ((x23 : Int) < ((x21l : Nat) : Int))) (fun J_5 =>
 J_5 h_5)
 (fun J_5 =>
 J_3 h_5)
 (fun  (h_6 : PH) =>
 xBlk (fun J_6 =>
 xIdx x21a x21l x23 5 fun x25 =>
 oI .i64 (h_6.cell (x25.add 0)) fun x26_0 =>
 oI .i64 (h_6.cell (x25.add 1)) fun x26_1 =>
 oI .i64 (h_6.cell (x25.add 2)) fun x26_2 =>
 oI .i64 (h_6.cell (x25.add 3)) fun x26_3 =>
 oI .i64 (h_6.cell (x25.add 4)) fun x26_4 =>
 xNew h_6 (.cells #[(.int .i64 0), (.int .i64 0), (.int .i64 0), (.int .i64 0), (.int .i64 0)] 29 (0, 0)) fun b6 h_7 =>
 xSt 5 h_7 (⟨b6, 0, none⟩ : Addr) [(.int .i64 x26_0), (.int .i64 x26_1), (.int .i64 x26_2), (.int .i64 x26_3), (.int .i64 x26_4)] fun h_8 =>
 Meets Try.prog 13 #[(.pointer x12)] h_8 fun v28 h_9 =>
 oP (some v28) fun x28 =>
 oI .i64 (h_9.cell ((⟨b6, 0, none⟩ : Addr).add 0)) fun x30_0 =>
 oI .i64 (h_9.cell ((⟨b6, 0, none⟩ : Addr).add 1)) fun x30_1 =>
 oI .i64 (h_9.cell ((⟨b6, 0, none⟩ : Addr).add 2)) fun x30_2 =>
 oI .i64 (h_9.cell ((⟨b6, 0, none⟩ : Addr).add 3)) fun x30_3 =>
 oI .i64 (h_9.cell ((⟨b6, 0, none⟩ : Addr).add 4)) fun x30_4 =>
 Meets Try.prog 15 #[(.agg #[(.int .i64 x30_0), (.int .i64 x30_1), (.int .i64 x30_2), (.int .i64 x30_3), (.int .i64 x30_4)])] h_9 fun v31 h_10 =>
 oAgg v31 5 fun x31cs =>
 oI .i64 x31cs[0]? fun x31_0 =>
 oI .i64 x31cs[1]? fun x31_1 =>
 oI .i64 x31cs[2]? fun x31_2 =>
 oI .i64 x31cs[3]? fun x31_3 =>
 oI .i64 x31cs[4]? fun x31_4 =>
 Meets Try.prog 14 #[(.pointer x12), (.agg #[(.int .i64 x31_0), (.int .i64 x31_1), (.int .i64 x31_2), (.int .i64 x31_3), (.int .i64 x31_4)])] h_10 fun v32 h_11 =>
 oI .i64 (some v32) fun x32 =>
 oI .i64 (h_11.cell ((⟨b6, 0, none⟩ : Addr).add 4)) fun x34 =>
 xSc (x34 == 9) false (fun J_7 =>
 oI .i64 (h_11.cell ((⟨b6, 0, none⟩ : Addr).add 4)) fun x38 =>
 J_7 (x38 == 10) h_11)
 (fun r40 h_12 =>
 xSc r40 false (fun J_8 =>
 oI .i64 (h_12.cell ((⟨b6, 0, none⟩ : Addr).add 4)) fun x43 =>
 J_8 (x43 == 14) h_12)
 (fun r45 h_13 =>
 xSc r45 false (fun J_9 =>
 oI .i64 (h_13.cell ((⟨b6, 0, none⟩ : Addr).add 4)) fun x48 =>
 J_9 (x48 == 11) h_13)
 (fun r50 h_14 =>
 xSc (x32 != 0) false (fun J_10 =>
 J_10 r50 h_14)
 (fun r55 h_15 =>
 xSc r55 true (fun J_11 =>
 Meets Try.prog 16 #[(.pointer x12), (.pointer x28)] h_15 fun v59 h_16 =>
 oB (some v59) fun x59 =>
 J_11 (!x59) h_16)
 (fun r61 h_17 =>
 xIte r61 (fun J_12 =>
 Q (.bool false) h_17)
 (fun J_12 =>
 J_12 h_17)
 (fun  (h_18 : PH) =>
 xDraw h_18 fun hs_1 =>
 xSc (x32 == 0) true (fun J_13 =>
 oI .i64 (hs_1.cell ((⟨b6, 0, none⟩ : Addr).add 0)) fun x66 =>
 J_13 (x66 == 4) h_18)
 (fun r68 h_19 =>
 xSc r68 true (fun J_14 =>
 oI .i64 (hs_1.cell ((⟨b6, 0, none⟩ : Addr).add 4)) fun x71 =>
 J_14 (x71 == 12) h_19)
 (fun r73 h_20 =>
 xSc r73 true (fun J_15 =>
 oI .i64 (hs_1.cell ((⟨b6, 0, none⟩ : Addr).add 1)) fun x77 =>
 Meets Try.prog 17 #[(.pointer x28), (.int .i64 x77)] h_20 fun v78 h_21 =>
 oB (some v78) fun x78 =>
 PH.le hs_1 h_21 ∧
 xSc (!x78) false (fun J_16 =>
 oI .i64 (hs_1.cell ((⟨b6, 0, none⟩ : Addr).add 1)) fun x83 =>
 Meets Try.prog 17 #[(.pointer x12), (.int .i64 x83)] h_21 fun v84 h_22 =>
 oB (some v84) fun x84 =>
 PH.le hs_1 h_22 ∧
 J_16 x84 h_22)
 (fun r85 h_23 =>
 xSc r85 false (fun J_17 =>
 oI .i64 (hs_1.cell ((⟨b6, 0, none⟩ : Addr).add 2)) fun x89 =>
 oI .i64 (hs_1.cell ((⟨b6, 0, none⟩ : Addr).add 2)) fun x93 =>
 Meets Try.prog 18 #[(.pointer x12), (.int .i64 x89)] h_23 fun v90 h_24 =>
 oI .i64 (some v90) fun x90 =>
 PH.le hs_1 h_24 ∧
 Meets Try.prog 18 #[(.pointer x28), (.int .i64 x93)] h_24 fun v94 h_25 =>
 oI .i64 (some v94) fun x94 =>
 PH.le hs_1 h_25 ∧
 J_17 (x90 != x94) h_25)
 (fun r96 h_26 =>
 xSc r96 false (fun J_18 =>
 oI .i64 (hs_1.cell ((⟨b6, 0, none⟩ : Addr).add 2)) fun x100 =>
 oI .i64 (hs_1.cell ((⟨b6, 0, none⟩ : Addr).add 2)) fun x104 =>
 Meets Try.prog 19 #[(.pointer x12), (.int .i64 x100)] h_26 fun v101 h_27 =>
 oI .i64 (some v101) fun x101 =>
 PH.le hs_1 h_27 ∧
 Meets Try.prog 19 #[(.pointer x28), (.int .i64 x104)] h_27 fun v105 h_28 =>
 oI .i64 (some v105) fun x105 =>
 PH.le hs_1 h_28 ∧
 J_18 (x101 != x105) h_28)
 (fun r107 h_29 =>
 J_15 r107 h_29) h_26) h_23) h_21)
 (fun r108 h_30 =>
 xIte r108 (fun J_19 =>
 Q (.bool false) h_30)
 (fun J_19 =>
 J_19 h_30)
 (fun  (h_31 : PH) =>
 J_6 h_31)) h_20) h_19) h_18)) h_15) h_14) h_13) h_12) h_11)
 (fun  (h_32 : PH) =>
 J_4 (IntKind.wrap .i64 (x23 + 1)) h_32)))) n 0 h_4)
 (fun  (h_33 : PH) =>
 Meets Try.prog 20 #[] h_33 fun v110 h_34 =>
 oB (some v110) fun x110 =>
 Q (.bool x110) h_34))) h_1
theorem P_law14_ModelErrors_eq (a0a : Option Addr) (a0l : Nat) (a0c : Nat) (h : PH) (Q : Value → PH → Prop) : dFn Try.prog Try.f3 A_law14_ModelErrors #[(.slice a0a a0l a0c)] h Q = P_law14_ModelErrors a0a a0l a0c h Q := by kernel_rfl
theorem P_law14_ModelErrors_of {a0a : Option Addr} {a0l : Nat} {a0c : Nat} {h : PH} {Q : Value → PH → Prop} (x : P_law14_ModelErrors a0a a0l a0c h Q) : Meets Try.prog 3 #[(.slice a0a a0l a0c)] h Q :=
  spec_of Try.func3 mix (by kernel_rfl) ((P_law14_ModelErrors_eq a0a a0l a0c h Q).symm ▸ x)
/-- futtock/futtocklaw14.ModelClones -/
def A_law14_ModelClones : Ann := .seq (.leaf) (.seq (.seq (.leaf) (.block [] (.loop [(19, (.int .i64))] (.seq (.leaf) (.seq (.cond [] (.leaf) (.leaf)) (.seq (.block [] (.seq (.leaf) (.seq (.leaf) (.cond [] (.seq (.leaf) (.leaf)) (.leaf))))) (.leaf))))))) (.seq (.leaf) (.seq (.seq (.leaf) (.cond [] (.seq (.leaf) (.leaf)) (.leaf))) (.seq (.seq (.leaf) (.block [] (.loop [(80, (.int .i64))] (.seq (.leaf) (.seq (.cond [] (.leaf) (.leaf)) (.seq (.block [] (.seq (.leaf) (.leaf))) (.leaf))))))) (.seq (.leaf) (.seq (.seq (.leaf) (.cond [] (.seq (.leaf) (.leaf)) (.leaf))) (.seq (.seq (.leaf) (.block [] (.loop [(106, (.int .i64))] (.seq (.leaf) (.seq (.cond [] (.leaf) (.leaf)) (.seq (.block [] (.seq (.leaf) (.seq (.draw [(0, .flt), (1, .flt), (4, .flt), (5, .flt), (2, .eff), (3, .eff), (6, .eff), (7, .eff), (8, .flt), (9, .flt), (10, .flt), (11, .flt), (12, .eff), (13, .flt), (14, .flt)]) (.cond [] (.seq (.leaf) (.leaf)) (.leaf))))) (.leaf))))))) (.seq (.leaf) (.seq (.leaf) (.leaf))))))))))
def P_law14_ModelClones (a0a : Option Addr) (a0l : Nat) (a0c : Nat) (a1a : Option Addr) (a1l : Nat) (a1c : Nat) (h : PH) (Q : Value → PH → Prop) : Prop :=
 xNew h (.cells #[(.int .i64 0), (.slice none 0 0), (.slice none 0 0), (.map none), (.map none)] 45 (0, 0)) fun b16 h_1 =>
 xNew h_1 (.cells #[(.pointer none), (.pointer (some (⟨b16, 0, none⟩ : Addr)))] 23 (0, 0)) fun b17 h_2 =>
 xBlk (fun J_1 =>
 ∃ n, xLoopN (fun _ _ => False) (fun J_2 =>
 (fun (x19 : Int) (h_3 : PH) =>
 xIte (decide ((x19 : Int) < ((2 : Nat) : Int))) (fun J_3 =>
 J_3 h_3)
 (fun J_3 =>
 J_1 h_3)
 (fun  (h_4 : PH) =>
 xBlk (fun J_4 =>
 xIdx (some (⟨b17, 0, none⟩ : Addr)) 2 x19 1 fun x21 =>
 oP (h_4.cell x21) fun x22 =>
 Meets Try.prog 14 #[(.pointer x22), (.agg #[(.int .i64 1), (.int .i64 0), (.int .i64 0), (.int .i64 0), (.int .i64 0)])] h_4 fun v25 h_5 =>
 oI .i64 (some v25) fun x25 =>
 xSc (x25 != 15) false (fun J_5 =>
 Meets Try.prog 18 #[(.pointer x22), (.int .i64 0)] h_5 fun v29 h_6 =>
 oI .i64 (some v29) fun x29 =>
 J_5 (x29 != (-1)) h_6)
 (fun r31 h_7 =>
 xSc r31 false (fun J_6 =>
 Meets Try.prog 19 #[(.pointer x22), (.int .i64 0)] h_7 fun v34 h_8 =>
 oI .i64 (some v34) fun x34 =>
 Meets Try.prog 21 #[(.pointer x22), (.int .i64 0)] h_8 fun v36 h_9 =>
 oI .i64 (some v36) fun x36 =>
 Meets Try.prog 22 #[(.pointer x22), (.int .i64 0)] h_9 fun v39 h_10 =>
 oS (some v39) fun x39a x39l x39c =>
 Meets Try.prog 23 #[(.pointer x22), (.int .i64 0)] h_10 fun v43 h_11 =>
 oS (some v43) fun x43a x43l x43c =>
 J_6 ((IntKind.wrap .i64 ((IntKind.wrap .i64 ((IntKind.wrap .i64 (x34 + x36)) + ((x39l : Nat) : Int))) + ((x43l : Nat) : Int))) != 0) h_11)
 (fun r47 h_12 =>
 xSc r47 false (fun J_7 =>
 Meets Try.prog 17 #[(.pointer x22), (.int .i64 0)] h_12 fun v50 h_13 =>
 oB (some v50) fun x50 =>
 J_7 x50 h_13)
 (fun r51 h_14 =>
 xSc r51 false (fun J_8 =>
 Meets Try.prog 13 #[(.pointer x22)] h_14 fun v54 h_15 =>
 oP (some v54) fun x54 =>
 J_8 (!(Option.isNone x54)) h_15)
 (fun r56 h_16 =>
 xSc r56 false (fun J_9 =>
 Meets Try.prog 16 #[(.pointer x22), (.pointer none)] h_16 fun v59 h_17 =>
 oB (some v59) fun x59 =>
 J_9 (!x59) h_17)
 (fun r61 h_18 =>
 xIte r61 (fun J_10 =>
 Q (.bool false) h_18)
 (fun J_10 =>
 J_10 h_18)
 (fun  (h_19 : PH) =>
 J_4 h_19)) h_16) h_14) h_12) h_7) h_5)
 (fun  (h_20 : PH) =>
 J_2 (IntKind.wrap .i64 (x19 + 1)) h_20)))) n 0 h_2)
 (fun  (h_21 : PH) =>
 Meets Try.prog 11 #[(.int .i64 4), (.int .i64 3), (.int .i64 3)] h_21 fun v64 h_22 =>
 oTup v64 2 fun x64cs =>
 oIx x64cs[0]? fun x64w =>
 oP (some x64w) fun x64_0 =>
 oIx x64cs[1]? fun x64w_1 =>
 oI .i64 (some x64w_1) fun x64_1 =>
 oP (some (.pointer x64_0)) fun x65 =>
 oI .i64 (some (.int .i64 x64_1)) fun x66 =>
 xSc (Option.isNone x65) false (fun J_11 =>
 J_11 (x66 != 0) h_22)
 (fun r72 h_23 =>
 xSc r72 false (fun J_12 =>
 Meets Try.prog 16 #[(.pointer x65), (.pointer none)] h_23 fun v75 h_24 =>
 oB (some v75) fun x75 =>
 J_12 x75 h_24)
 (fun r76 h_25 =>
 xIte r76 (fun J_13 =>
 Q (.bool false) h_25)
 (fun J_13 =>
 J_13 h_25)
 (fun  (h_26 : PH) =>
 Meets Try.prog 12 #[(.slice a0a a0l a0c)] h_26 fun v78 h_27 =>
 oS (some v78) fun x78a x78l x78c =>
 xBlk (fun J_14 =>
 ∃ n_1, xLoopN (fun _ _ => False) (fun J_15 =>
 (fun (x80 : Int) (h_28 : PH) =>
 xIte (decide ((x80 : Int) < ((x78l : Nat) : Int))) (fun J_16 =>
 J_16 h_28)
 (fun J_16 =>
 J_14 h_28)
 (fun  (h_29 : PH) =>
 xBlk (fun J_17 =>
 xIdx x78a x78l x80 5 fun x82 =>
 oI .i64 (h_29.cell (x82.add 0)) fun x83_0 =>
 oI .i64 (h_29.cell (x82.add 1)) fun x83_1 =>
 oI .i64 (h_29.cell (x82.add 2)) fun x83_2 =>
 oI .i64 (h_29.cell (x82.add 3)) fun x83_3 =>
 oI .i64 (h_29.cell (x82.add 4)) fun x83_4 =>
 xNew h_29 (.cells #[(.int .i64 0), (.int .i64 0), (.int .i64 0), (.int .i64 0), (.int .i64 0)] 29 (0, 0)) fun b10 h_30 =>
 xSt 5 h_30 (⟨b10, 0, none⟩ : Addr) [(.int .i64 x83_0), (.int .i64 x83_1), (.int .i64 x83_2), (.int .i64 x83_3), (.int .i64 x83_4)] fun h_31 =>
 oI .i64 (h_31.cell ((⟨b10, 0, none⟩ : Addr).add 0)) fun x85_0 =>
 oI .i64 (h_31.cell ((⟨b10, 0, none⟩ : Addr).add 1)) fun x85_1 =>
 oI .i64 (h_31.cell ((⟨b10, 0, none⟩ : Addr).add 2)) fun x85_2 =>
 oI .i64 (h_31.cell ((⟨b10, 0, none⟩ : Addr).add 3)) fun x85_3 =>
 oI .i64 (h_31.cell ((⟨b10, 0, none⟩ : Addr).add 4)) fun x85_4 =>
 Meets Try.prog 15 #[(.agg #[(.int .i64 x85_0), (.int .i64 x85_1), (.int .i64 x85_2), (.int .i64 x85_3), (.int .i64 x85_4)])] h_31 fun v86 h_32 =>
 oAgg v86 5 fun x86cs =>
 oI .i64 x86cs[0]? fun x86_0 =>
 oI .i64 x86cs[1]? fun x86_1 =>
 oI .i64 x86cs[2]? fun x86_2 =>
 oI .i64 x86cs[3]? fun x86_3 =>
 oI .i64 x86cs[4]? fun x86_4 =>
 Meets Try.prog 14 #[(.pointer x65), (.agg #[(.int .i64 x86_0), (.int .i64 x86_1), (.int .i64 x86_2), (.int .i64 x86_3), (.int .i64 x86_4)])] h_32 fun v87 h_33 =>
 oI .i64 (some v87) fun x87 =>
 J_17 h_33)
 (fun  (h_34 : PH) =>
 J_15 (IntKind.wrap .i64 (x80 + 1)) h_34)))) n_1 0 h_27)
 (fun  (h_35 : PH) =>
 Meets Try.prog 13 #[(.pointer x65)] h_35 fun v90 h_36 =>
 oP (some v90) fun x90 =>
 Meets Try.prog 13 #[(.pointer x65)] h_36 fun v92 h_37 =>
 oP (some v92) fun x92 =>
 Meets Try.prog 16 #[(.pointer x90), (.pointer x65)] h_37 fun v95 h_38 =>
 oB (some v95) fun x95 =>
 xSc (!x95) false (fun J_18 =>
 Meets Try.prog 16 #[(.pointer x65), (.pointer x92)] h_38 fun v100 h_39 =>
 oB (some v100) fun x100 =>
 J_18 (!x100) h_39)
 (fun r102 h_40 =>
 xIte r102 (fun J_19 =>
 Q (.bool false) h_40)
 (fun J_19 =>
 J_19 h_40)
 (fun  (h_41 : PH) =>
 Meets Try.prog 12 #[(.slice a1a a1l a1c)] h_41 fun v104 h_42 =>
 oS (some v104) fun x104a x104l x104c =>
 xBlk (fun J_20 =>
 ∃ n_2, xLoopN (fun _ _ => False) (fun J_21 =>
 (fun (x106 : Int) (h_43 : PH) =>
 xIte (decide ((x106 : Int) < ((x104l : Nat) : Int))) (fun J_22 =>
 J_22 h_43)
 (fun J_22 =>
 J_20 h_43)
 (fun  (h_44 : PH) =>
 xBlk (fun J_23 =>
 xIdx x104a x104l x106 5 fun x108 =>
 oI .i64 (h_44.cell (x108.add 0)) fun x109_0 =>
 oI .i64 (h_44.cell (x108.add 1)) fun x109_1 =>
 oI .i64 (h_44.cell (x108.add 2)) fun x109_2 =>
 oI .i64 (h_44.cell (x108.add 3)) fun x109_3 =>
 oI .i64 (h_44.cell (x108.add 4)) fun x109_4 =>
 xNew h_44 (.cells #[(.int .i64 0), (.int .i64 0), (.int .i64 0), (.int .i64 0), (.int .i64 0)] 29 (0, 0)) fun b14 h_45 =>
 xSt 5 h_45 (⟨b14, 0, none⟩ : Addr) [(.int .i64 x109_0), (.int .i64 x109_1), (.int .i64 x109_2), (.int .i64 x109_3), (.int .i64 x109_4)] fun h_46 =>
 xDraw h_46 fun hs_1 =>
 oI .i64 (hs_1.cell ((⟨b14, 0, none⟩ : Addr).add 0)) fun x111_0 =>
 oI .i64 (hs_1.cell ((⟨b14, 0, none⟩ : Addr).add 1)) fun x111_1 =>
 oI .i64 (hs_1.cell ((⟨b14, 0, none⟩ : Addr).add 2)) fun x111_2 =>
 oI .i64 (hs_1.cell ((⟨b14, 0, none⟩ : Addr).add 3)) fun x111_3 =>
 oI .i64 (hs_1.cell ((⟨b14, 0, none⟩ : Addr).add 4)) fun x111_4 =>
 oI .i64 (hs_1.cell ((⟨b14, 0, none⟩ : Addr).add 0)) fun x115_0 =>
 oI .i64 (hs_1.cell ((⟨b14, 0, none⟩ : Addr).add 1)) fun x115_1 =>
 oI .i64 (hs_1.cell ((⟨b14, 0, none⟩ : Addr).add 2)) fun x115_2 =>
 oI .i64 (hs_1.cell ((⟨b14, 0, none⟩ : Addr).add 3)) fun x115_3 =>
 oI .i64 (hs_1.cell ((⟨b14, 0, none⟩ : Addr).add 4)) fun x115_4 =>
 Meets Try.prog 15 #[(.agg #[(.int .i64 x111_0), (.int .i64 x111_1), (.int .i64 x111_2), (.int .i64 x111_3), (.int .i64 x111_4)])] h_46 fun v112 h_47 =>
 oAgg v112 5 fun x112cs =>
 oI .i64 x112cs[0]? fun x112_0 =>
 oI .i64 x112cs[1]? fun x112_1 =>
 oI .i64 x112cs[2]? fun x112_2 =>
 oI .i64 x112cs[3]? fun x112_3 =>
 oI .i64 x112cs[4]? fun x112_4 =>
 PH.le hs_1 h_47 ∧
 Meets Try.prog 14 #[(.pointer x90), (.agg #[(.int .i64 x112_0), (.int .i64 x112_1), (.int .i64 x112_2), (.int .i64 x112_3), (.int .i64 x112_4)])] h_47 fun v113 h_48 =>
 oI .i64 (some v113) fun x113 =>
 PH.le hs_1 h_48 ∧
 Meets Try.prog 15 #[(.agg #[(.int .i64 x115_0), (.int .i64 x115_1), (.int .i64 x115_2), (.int .i64 x115_3), (.int .i64 x115_4)])] h_48 fun v116 h_49 =>
 oAgg v116 5 fun x116cs =>
 oI .i64 x116cs[0]? fun x116_0 =>
 oI .i64 x116cs[1]? fun x116_1 =>
 oI .i64 x116cs[2]? fun x116_2 =>
 oI .i64 x116cs[3]? fun x116_3 =>
 oI .i64 x116cs[4]? fun x116_4 =>
 PH.le hs_1 h_49 ∧
 Meets Try.prog 14 #[(.pointer x92), (.agg #[(.int .i64 x116_0), (.int .i64 x116_1), (.int .i64 x116_2), (.int .i64 x116_3), (.int .i64 x116_4)])] h_49 fun v117 h_50 =>
 oI .i64 (some v117) fun x117 =>
 PH.le hs_1 h_50 ∧
 xSc (x113 != x117) false (fun J_24 =>
 Meets Try.prog 16 #[(.pointer x90), (.pointer x92)] h_50 fun v122 h_51 =>
 oB (some v122) fun x122 =>
 PH.le hs_1 h_51 ∧
 J_24 (!x122) h_51)
 (fun r124 h_52 =>
 xIte r124 (fun J_25 =>
 Q (.bool false) h_52)
 (fun J_25 =>
 J_25 h_52)
 (fun  (h_53 : PH) =>
 J_23 h_53)) h_50)
 (fun  (h_54 : PH) =>
 J_21 (IntKind.wrap .i64 (x106 + 1)) h_54)))) n_2 0 h_42)
 (fun  (h_55 : PH) =>
 Meets Try.prog 14 #[(.pointer x90), (.agg #[(.int .i64 12), (.int .i64 0), (.int .i64 0), (.int .i64 1), (.int .i64 0)])] h_55 fun v128 h_56 =>
 oI .i64 (some v128) fun x128 =>
 Meets Try.prog 13 #[(.pointer x65)] h_56 fun v131 h_57 =>
 oP (some v131) fun x131 =>
 Meets Try.prog 16 #[(.pointer x65), (.pointer x131)] h_57 fun v132 h_58 =>
 oB (some v132) fun x132 =>
 xSc x132 true (fun J_26 =>
 Meets Try.prog 20 #[] h_58 fun v134 h_59 =>
 oB (some v134) fun x134 =>
 J_26 x134 h_59)
 (fun r135 h_60 =>
 Q (.bool r135) h_60) h_58))) h_38))) h_23) h_22)
theorem P_law14_ModelClones_eq (a0a : Option Addr) (a0l : Nat) (a0c : Nat) (a1a : Option Addr) (a1l : Nat) (a1c : Nat) (h : PH) (Q : Value → PH → Prop) : dFn Try.prog Try.f4 A_law14_ModelClones #[(.slice a0a a0l a0c), (.slice a1a a1l a1c)] h Q = P_law14_ModelClones a0a a0l a0c a1a a1l a1c h Q := by kernel_rfl
theorem P_law14_ModelClones_of {a0a : Option Addr} {a0l : Nat} {a0c : Nat} {a1a : Option Addr} {a1l : Nat} {a1c : Nat} {h : PH} {Q : Value → PH → Prop} (x : P_law14_ModelClones a0a a0l a0c a1a a1l a1c h Q) : Meets Try.prog 4 #[(.slice a0a a0l a0c), (.slice a1a a1l a1c)] h Q :=
  spec_of Try.func4 mix (by kernel_rfl) ((P_law14_ModelClones_eq a0a a0l a0c a1a a1l a1c h Q).symm ▸ x)
/-- futtock/futtocklaw14.short -/
def A_law14_short : Ann := .seq (.leaf) (.seq (.leaf) (.leaf))
def P_law14_short (a0a : Option Addr) (a0l : Nat) (a0c : Nat) (h : PH) (Q : Value → PH → Prop) : Prop :=
 xSlice a0a a0l a0c 5 none (some (if 200 < ((a0l : Nat) : Int) then 200 else ((a0l : Nat) : Int))) fun x7a x7l x7c =>
 Q (.slice x7a x7l x7c) h
theorem P_law14_short_eq (a0a : Option Addr) (a0l : Nat) (a0c : Nat) (h : PH) (Q : Value → PH → Prop) : dFn Try.prog Try.f12 A_law14_short #[(.slice a0a a0l a0c)] h Q = P_law14_short a0a a0l a0c h Q := by kernel_rfl
theorem P_law14_short_of {a0a : Option Addr} {a0l : Nat} {a0c : Nat} {h : PH} {Q : Value → PH → Prop} (x : P_law14_short a0a a0l a0c h Q) : Meets Try.prog 12 #[(.slice a0a a0l a0c)] h Q :=
  spec_of Try.func12 mix (by kernel_rfl) ((P_law14_short_eq a0a a0l a0c h Q).symm ▸ x)
/-- futtock/futtocklaw14.theirs -/
def A_law14_theirs : Ann := .seq (.leaf) (.seq (.leaf) (.leaf))
def P_law14_theirs (a0_0 : Int) (a0_1 : Int) (a0_2 : Int) (a0_3 : Int) (a0_4 : Int) (h : PH) (Q : Value → PH → Prop) : Prop :=
 xNew h (.cells #[(.int .i64 a0_0), (.int .i64 a0_1), (.int .i64 a0_2), (.int .i64 a0_3), (.int .i64 a0_4)] 29 (0, 0)) fun b1 h_1 =>
 xNew h_1 (.cells #[(.int .i64 0), (.int .i64 0), (.int .i64 0), (.int .i64 0), (.int .i64 0)] 33 (0, 0)) fun b2 h_2 =>
 oI .i64 (h_2.cell ((⟨b1, 0, none⟩ : Addr).add 0)) fun x4 =>
 oI .i64 (h_2.cell ((⟨b1, 0, none⟩ : Addr).add 1)) fun x6 =>
 oI .i64 (h_2.cell ((⟨b1, 0, none⟩ : Addr).add 2)) fun x8 =>
 oI .i64 (h_2.cell ((⟨b1, 0, none⟩ : Addr).add 3)) fun x10 =>
 oI .i64 (h_2.cell ((⟨b1, 0, none⟩ : Addr).add 4)) fun x12 =>
 xSt 5 h_2 (⟨b2, 0, none⟩ : Addr) [(.int .i64 x4), (.int .i64 x6), (.int .i64 x8), (.int .i64 x10), (.int .i64 x12)] fun h_3 =>
 oI .i64 (h_3.cell ((⟨b2, 0, none⟩ : Addr).add 0)) fun y2_0 =>
 oI .i64 (h_3.cell ((⟨b2, 0, none⟩ : Addr).add 1)) fun y2_1 =>
 oI .i64 (h_3.cell ((⟨b2, 0, none⟩ : Addr).add 2)) fun y2_2 =>
 oI .i64 (h_3.cell ((⟨b2, 0, none⟩ : Addr).add 3)) fun y2_3 =>
 oI .i64 (h_3.cell ((⟨b2, 0, none⟩ : Addr).add 4)) fun y2_4 =>
 Q (.agg #[(.int .i64 y2_0), (.int .i64 y2_1), (.int .i64 y2_2), (.int .i64 y2_3), (.int .i64 y2_4)]) h_3
theorem P_law14_theirs_eq (a0_0 : Int) (a0_1 : Int) (a0_2 : Int) (a0_3 : Int) (a0_4 : Int) (h : PH) (Q : Value → PH → Prop) : dFn Try.prog Try.f15 A_law14_theirs #[(.agg #[(.int .i64 a0_0), (.int .i64 a0_1), (.int .i64 a0_2), (.int .i64 a0_3), (.int .i64 a0_4)])] h Q = P_law14_theirs a0_0 a0_1 a0_2 a0_3 a0_4 h Q := by kernel_rfl
theorem P_law14_theirs_of {a0_0 : Int} {a0_1 : Int} {a0_2 : Int} {a0_3 : Int} {a0_4 : Int} {h : PH} {Q : Value → PH → Prop} (x : P_law14_theirs a0_0 a0_1 a0_2 a0_3 a0_4 h Q) : Meets Try.prog 15 #[(.agg #[(.int .i64 a0_0), (.int .i64 a0_1), (.int .i64 a0_2), (.int .i64 a0_3), (.int .i64 a0_4)])] h Q :=
  spec_of Try.func15 mix (by kernel_rfl) ((P_law14_theirs_eq a0_0 a0_1 a0_2 a0_3 a0_4 h Q).symm ▸ x)
/-- futtock/futtocklaw14.alive -/
def A_law14_alive : Ann := .seq (.leaf) (.seq (.leaf) (.seq (.seq (.leaf) (.cond [] (.seq (.leaf) (.leaf)) (.leaf))) (.seq (.leaf) (.leaf))))
def P_law14_alive  (h : PH) (Q : Value → PH → Prop) : Prop :=
 Meets Try.prog 11 #[(.int .i64 2), (.int .i64 1), (.int .i64 3)] h fun v4 h_1 =>
 oTup v4 2 fun x4cs =>
 oIx x4cs[0]? fun x4w =>
 oP (some x4w) fun x4_0 =>
 oIx x4cs[1]? fun x4w_1 =>
 oI .i64 (some x4w_1) fun x4_1 =>
 oP (some (.pointer x4_0)) fun x5 =>
 oI .i64 (some (.int .i64 x4_1)) fun x6 =>
 xSc (Option.isNone x5) false (fun J_1 =>
 J_1 (x6 != 0) h_1)
 (fun r12 h_2 =>
 xSc r12 false (fun J_2 =>
 Meets Try.prog 14 #[(.pointer x5), (.agg #[(.int .i64 1), (.int .i64 0), (.int .i64 0), (.int .i64 0), (.int .i64 0)])] h_2 fun v16 h_3 =>
 oI .i64 (some v16) fun x16 =>
 J_2 (x16 != 0) h_3)
 (fun r18 h_4 =>
 xSc r18 false (fun J_3 =>
 Meets Try.prog 18 #[(.pointer x5), (.int .i64 0)] h_4 fun v21 h_5 =>
 oI .i64 (some v21) fun x21 =>
 J_3 (x21 != 0) h_5)
 (fun r23 h_6 =>
 xSc r23 false (fun J_4 =>
 Meets Try.prog 19 #[(.pointer x5), (.int .i64 0)] h_6 fun v26 h_7 =>
 oI .i64 (some v26) fun x26 =>
 J_4 (x26 != 1) h_7)
 (fun r28 h_8 =>
 xIte r28 (fun J_5 =>
 Q (.bool false) h_8)
 (fun J_5 =>
 J_5 h_8)
 (fun  (h_9 : PH) =>
 Meets Try.prog 14 #[(.pointer x5), (.agg #[(.int .i64 1), (.int .i64 1), (.int .i64 0), (.int .i64 0), (.int .i64 0)])] h_9 fun v31 h_10 =>
 oI .i64 (some v31) fun x31 =>
 xSc (x31 == 15) true (fun J_6 =>
 Meets Try.prog 14 #[(.pointer x5), (.agg #[(.int .i64 3), (.int .i64 0), (.int .i64 0), (.int .i64 0), (.int .i64 0)])] h_10 fun v36 h_11 =>
 oI .i64 (some v36) fun x36 =>
 J_6 (x36 == 0) h_11)
 (fun r38 h_12 =>
 xSc r38 true (fun J_7 =>
 Meets Try.prog 18 #[(.pointer x5), (.int .i64 0)] h_12 fun v41 h_13 =>
 oI .i64 (some v41) fun x41 =>
 J_7 (x41 == (-1)) h_13)
 (fun r43 h_14 =>
 Q (.bool r43) h_14) h_12) h_10)) h_6) h_4) h_2) h_1
theorem P_law14_alive_eq  (h : PH) (Q : Value → PH → Prop) : dFn Try.prog Try.f20 A_law14_alive #[] h Q = P_law14_alive  h Q := by kernel_rfl
theorem P_law14_alive_of  {h : PH} {Q : Value → PH → Prop} (x : P_law14_alive  h Q) : Meets Try.prog 20 #[] h Q :=
  spec_of Try.func20 mix (by kernel_rfl) ((P_law14_alive_eq  h Q).symm ▸ x)
end Go.Proofs.Ytnnedfhpicdacaa

/-
  What the statements of layer 14 share: events that come in, 'short', 'theirs', 'alive'.
-/
set_option linter.unusedSimpArgs false
set_option linter.unusedVariables false
namespace Go.Md
open Go Go.Sx Go.Proofs Go.Proofs.Ytnnedfhpicdacaa

/-- Events in a row, wherever. -/
structure EvsAt (h : PH) (a : Option Addr) (l : List Ev) : Prop where
  at_ : ∀ i e, l[i]? = some e → ∃ b, a = some b ∧ h.cell ((b.add (i * 5)).add 0) = some (.int .i64 e.kind) ∧ h.cell ((b.add (i * 5)).add 1) = some (.int .i64 e.thread) ∧ h.cell ((b.add (i * 5)).add 2) = some (.int .i64 e.obj) ∧
    h.cell ((b.add (i * 5)).add 3) = some (.int .i64 e.arg) ∧ h.cell ((b.add (i * 5)).add 4) = some (.int .i64 e.err)
theorem EvsAt.le {h h' : PH} {a : Option Addr} {l : List Ev} (x : EvsAt h a l) (le : h.le h') : EvsAt h' a l := by
  refine ⟨fun i e he => ?_⟩
  obtain ⟨b, hb, h0, h1, h2, h3, h4⟩ := x.at_ i e he
  exact ⟨b, hb, PH.cell_le le h0, PH.cell_le le h1, PH.cell_le le h2, PH.cell_le le h3, PH.cell_le le h4⟩
theorem EvsAt.take {h : PH} {a : Option Addr} {l : List Ev} (x : EvsAt h a l) (n : Nat) : EvsAt h a (l.take n) := by
  refine ⟨fun i e he => x.at_ i e ?_⟩
  rw [List.getElem?_take] at he
  split at he
  · exact he
  · cases he

theorem meets_short14 {h : PH} {a : Option Addr} {l c : Nat} (hc : l ≤ c) : Meets Try.prog 12 #[.slice a l c] h fun v h' => (∃ c', v = .slice a (min l 200) c') ∧ h' = h := by
  apply P_law14_short_of
  unfold P_law14_short xSlice
  have key : (if (200 : Int) < (l : Int) then (200 : Int) else (l : Int)) = ((min l 200 : Nat) : Int) := by
    split <;> omega
  rw [key]
  simp only [Option.getD_none, Option.getD_some, Int.toNat_zero, Nat.zero_mul, Nat.sub_zero, Int.toNat_natCast]
  refine ⟨⟨by omega, by omega, by omega⟩, ⟨c, ?_⟩, by trivial⟩
  congr 1
  split
  · rfl
  · cases a with
    | none => rfl
    | some b => simp [Addr.add]

theorem meets_theirs14 {h : PH} (e : Ev) : Meets Try.prog 15 #[evV e] h fun v h' => v = evV e ∧ h' = h := by
  apply Meets.same
  apply P_law14_theirs_of
  unfold P_law14_theirs
  intro b nb
  have l : h.le _ := PH.le_upd (O := .cells #[.int .i64 e.kind, .int .i64 e.thread, .int .i64 e.obj, .int .i64 e.arg, .int .i64 e.err] 29 (0, 0)) nb
  have eb := PH.upd_same h b (.cells #[.int .i64 e.kind, .int .i64 e.thread, .int .i64 e.obj, .int .i64 e.arg, .int .i64 e.err] 29 (0, 0))
  generalize h.upd b (.cells #[.int .i64 e.kind, .int .i64 e.thread, .int .i64 e.obj, .int .i64 e.arg, .int .i64 e.err] 29 (0, 0)) = h1 at l eb ⊢
  intro b2 nb2
  have q1 : b ≠ b2 := ne_of_known eb nb2
  simp only [xNn_some, add_mk, cell_mk, upd_at, del_at, if_true, if_false, Option.bind_some, List.getElem?_toArray, List.getElem?_cons_succ, List.getElem?_cons_zero, oI_some, oS_some, oM_some, oB_some, oP_some, oT_some, xIdx_some, Nat.zero_add, Nat.add_zero, Nat.mul_one, q1, eb]
  refine xSt_mk (PH.upd_same _ _ _) rfl (by decide) (by simp [oneCell]) (by simp) ?_
  rw [PH.upd_upd, setN5]
  simp only [xNn_some, add_mk, cell_mk, upd_at, del_at, if_true, if_false, Option.bind_some, List.getElem?_toArray, List.getElem?_cons_succ, List.getElem?_cons_zero, oI_some, oS_some, oM_some, oB_some, oP_some, oT_some, xIdx_some, Nat.zero_add, Nat.add_zero, Nat.mul_one]
  exact ⟨rfl, PH.le_trans l (PH.le_upd nb2)⟩

/-- A model of one's own: 'h0' is what was known at first. -/
def MOwn (h0 h : PH) (p : Value) (s : Ms) : Prop := ∃ L, p = mp L ∧ MRep h L s ∧ h0.le h ∧ ∀ b ∈ L.all, h0 b = none
theorem MOwn.of_fresh {h0 h h' : PH} {v : Value} {s : Ms} (l : h0.le h) (f : Fresh h h' v s) : MOwn h0 h' v s := by
  obtain ⟨L, e, r, l', n⟩ := f
  exact ⟨L, e, r, PH.le_trans l l', fun b hb => none_of l (n b hb)⟩
theorem MOwn.base {h0 h : PH} {p : Value} {s : Ms} (o : MOwn h0 h p s) : h0.le h := o.choose_spec.2.2.1
theorem MOwn.ptr {h0 h : PH} {p : Value} {s : Ms} (o : MOwn h0 h p s) : ∃ a, p = .pointer (some a) := by
  obtain ⟨L, rfl, _⟩ := o; exact ⟨_, rfl⟩
theorem MOwn.apply {h0 h : PH} {p : Value} {s : Ms} (o : MOwn h0 h p s) (e : Ev) (few : s.waits.length ≤ 64) :
    Meets Try.prog 14 #[p, evV e] h fun v h' => v = .int .i64 (s.code e) ∧ MOwn h0 h' p (s.next e) := by
  obtain ⟨L, rfl, r, l, n⟩ := o
  refine (meets_Apply r e few).mono ?_
  rintro v h' ⟨rfl, r', x⟩
  exact ⟨rfl, L, rfl, r', fun b O hO => x b O (l b O hO) (fun hm => by rw [n b hm] at hO; cases hO), n⟩
theorem MOwn.owner {h0 h : PH} {p : Value} {s : Ms} (o : MOwn h0 h p s) (x : Int) : Meets Try.prog 18 #[p, .int .i64 x] h fun v h' => v = .int .i64 (s.at x).owner ∧ h' = h := by
  obtain ⟨L, rfl, r, _⟩ := o; exact meets_Owner r x
theorem MOwn.count {h0 h : PH} {p : Value} {s : Ms} (o : MOwn h0 h p s) (x : Int) : Meets Try.prog 19 #[p, .int .i64 x] h fun v h' => v = .int .i64 (s.at x).count ∧ h' = h := by
  obtain ⟨L, rfl, r, _⟩ := o; exact meets_Count r x

theorem meets_alive14 {h : PH} : Meets Try.prog 20 #[] h fun v h' => v = .bool true ∧ h' = h := by
  apply Meets.same
  apply P_law14_alive_of
  unfold P_law14_alive
  refine (meets_New 2 1 3 (by decide)).mono ?_
  rintro _ h1 ⟨w, rfl, f⟩
  have o := MOwn.of_fresh (PH.le_refl h) f
  obtain ⟨a, rfl⟩ := o.ptr
  clear f
  have k1 : (Ms.new 2 1 3).code ⟨1, 0, 0, 0, 0⟩ = 0 := by kernel_rfl
  have k2 : (((Ms.new 2 1 3).next ⟨1, 0, 0, 0, 0⟩).at 0).owner = 0 := by kernel_rfl
  have k3 : (((Ms.new 2 1 3).next ⟨1, 0, 0, 0, 0⟩).at 0).count = 1 := by kernel_rfl
  have k4 : ((Ms.new 2 1 3).next ⟨1, 0, 0, 0, 0⟩).code ⟨1, 1, 0, 0, 0⟩ = 15 := by kernel_rfl
  have k5 : (((Ms.new 2 1 3).next ⟨1, 0, 0, 0, 0⟩).next ⟨1, 1, 0, 0, 0⟩).code ⟨3, 0, 0, 0, 0⟩ = 0 := by kernel_rfl
  have k6 : (((((Ms.new 2 1 3).next ⟨1, 0, 0, 0, 0⟩).next ⟨1, 1, 0, 0, 0⟩).next ⟨3, 0, 0, 0, 0⟩).at 0).owner = -1 := by kernel_rfl
  simp only [oTup_mk, oIx_some, xNn_some, add_mk, cell_mk, upd_at, del_at, if_true, if_false, Option.bind_some, List.getElem?_toArray, List.getElem?_cons_succ, List.getElem?_cons_zero, oI_some, oS_some, oM_some, oB_some, oP_some, oT_some, xIdx_some, Nat.zero_add, Nat.add_zero, Nat.mul_one]
  refine ⟨rfl, xSc_or false (fun _ J hJ => hJ) ⟨fun _ => ?_, fun hx => (by cases hx)⟩⟩
  refine (o.apply ⟨1, 0, 0, 0, 0⟩ (of_decide_eq_true (by kernel_rfl))).mono ?_
  rintro _ h2 ⟨rfl, o⟩
  simp only [oI_some, k1]
  refine xSc_or false (fun _ J hJ => ?_) ?_
  · refine (o.owner 0).look ?_
    simp only [oI_some, k2]
    exact hJ
  refine xSc_or false (fun _ J hJ => ?_) ⟨fun hx => (by cases hx), fun _ => ?_⟩
  · refine (o.count 0).look ?_
    simp only [oI_some, k3]
    exact hJ
  refine (o.apply ⟨1, 1, 0, 0, 0⟩ (of_decide_eq_true (by kernel_rfl))).mono ?_
  rintro _ h3 ⟨rfl, o⟩
  simp only [oI_some, k4]
  refine ⟨fun _ => ?_, fun hx => (by cases hx)⟩
  refine (o.apply ⟨3, 0, 0, 0, 0⟩ (of_decide_eq_true (by kernel_rfl))).mono ?_
  rintro _ h4 ⟨rfl, o⟩
  simp only [oI_some, k5]
  refine xSc_and true (fun _ J hJ => ?_) ⟨rfl, o.base⟩
  refine (o.owner 0).look ?_
  simp only [oI_some, k6]
  exact hJ

def evOf (ns : List Int) : Ev := ⟨ns.getD 0 0, ns.getD 1 0, ns.getD 2 0, ns.getD 3 0, ns.getD 4 0⟩
theorem evsAt_of {h : PH} {a : Option Addr} {rows : List (List Int)} (hl : ∀ ns ∈ rows, ns.length = 5) (hr : ∀ i ns, rows[i]? = some ns → ∃ b, a = some b ∧ ∀ j, j < 5 → h.cell ((b.add (i * 5)).add j) = ns[j]?.map (Value.int .i64)) : EvsAt h a (rows.map evOf) := by
  refine ⟨fun i e he => ?_⟩
  rw [List.getElem?_map] at he
  cases hi : rows[i]? with
  | none => rw [hi] at he; cases he
  | some ns =>
    rw [hi] at he
    simp only [Option.map_some, Option.some.injEq] at he
    obtain ⟨b, hb, hc⟩ := hr i ns hi
    have l5 := hl ns (List.mem_of_getElem? hi)
    have g : ∀ j, j < 5 → ns[j]?.map (Value.int .i64) = some (.int .i64 (ns.getD j 0)) := fun j hj => by
      rw [List.getElem?_eq_getElem (by omega)]; simp [List.getD_eq_getElem?_getD, List.getElem?_eq_getElem (show j < ns.length by omega)]
    subst he
    exact ⟨b, hb, (hc 0 (by omega)).trans (g 0 (by omega)), (hc 1 (by omega)).trans (g 1 (by omega)), (hc 2 (by omega)).trans (g 2 (by omega)), (hc 3 (by omega)).trans (g 3 (by omega)), (hc 4 (by omega)).trans (g 4 (by omega))⟩

end Go.Md

/- The readings of some functions, printed by a program of the session (wip/tools/sx.py): each by one equation that the kernel reckons. -/
set_option linter.unusedVariables false
namespace Go.Proofs.Ytnnedfhpicdacaa
open Go Go.Sx Go.Proofs
/-- futtock/futtocklaw23.alive -/
def A_law23_alive : Ann := .seq (.leaf) (.seq (.leaf) (.seq (.leaf) (.seq (.leaf) (.seq (.leaf) (.seq (.leaf) (.seq (.leaf) (.leaf)))))))
def P_law23_alive  (h : PH) (Q : Value → PH → Prop) : Prop :=
 xNew h (.cells #[(.int .i64 0), (.int .i64 0), (.int .i64 0), (.int .i64 0), (.int .i64 0), (.int .i64 0), (.int .i64 0)] 61 (0, 0)) fun b1 h_1 =>
 xSt 7 h_1 (⟨b1, 0, none⟩ : Addr) [(.int .i64 1), (.int .i64 0), (.int .i64 0), (.int .i64 0), (.int .i64 0), (.int .i64 0), (.int .i64 9)] fun h_2 =>
 xNew h_2 (.cells #[(.int .i64 0), (.int .i64 0), (.int .i64 0), (.int .i64 0), (.int .i64 0), (.int .i64 0), (.int .i64 0)] 61 (0, 0)) fun b2 h_3 =>
 xSt 7 h_3 (⟨b2, 0, none⟩ : Addr) [(.int .i64 1), (.int .i64 1), (.int .i64 0), (.int .i64 0), (.int .i64 0), (.int .i64 1), (.int .i64 9)] fun h_4 =>
 xNew h_4 (.cells #[(.int .i64 0), (.int .i64 0), (.int .i64 0), (.int .i64 0), (.int .i64 0), (.int .i64 0), (.int .i64 0)] 61 (0, 0)) fun b3 h_5 =>
 xSt 7 h_5 (⟨b3, 0, none⟩ : Addr) [(.int .i64 3), (.int .i64 0), (.int .i64 0), (.int .i64 0), (.int .i64 0), (.int .i64 2), (.int .i64 9)] fun h_6 =>
 oI .i64 (h_6.cell ((⟨b1, 0, none⟩ : Addr).add 0)) fun x15_0 =>
 oI .i64 (h_6.cell ((⟨b1, 0, none⟩ : Addr).add 1)) fun x15_1 =>
 oI .i64 (h_6.cell ((⟨b1, 0, none⟩ : Addr).add 2)) fun x15_2 =>
 oI .i64 (h_6.cell ((⟨b1, 0, none⟩ : Addr).add 3)) fun x15_3 =>
 oI .i64 (h_6.cell ((⟨b1, 0, none⟩ : Addr).add 4)) fun x15_4 =>
 oI .i64 (h_6.cell ((⟨b1, 0, none⟩ : Addr).add 5)) fun x15_5 =>
 oI .i64 (h_6.cell ((⟨b1, 0, none⟩ : Addr).add 6)) fun x15_6 =>
 oI .i64 (h_6.cell ((⟨b2, 0, none⟩ : Addr).add 0)) fun x16_0 =>
 oI .i64 (h_6.cell ((⟨b2, 0, none⟩ : Addr).add 1)) fun x16_1 =>
 oI .i64 (h_6.cell ((⟨b2, 0, none⟩ : Addr).add 2)) fun x16_2 =>
 oI .i64 (h_6.cell ((⟨b2, 0, none⟩ : Addr).add 3)) fun x16_3 =>
 oI .i64 (h_6.cell ((⟨b2, 0, none⟩ : Addr).add 4)) fun x16_4 =>
 oI .i64 (h_6.cell ((⟨b2, 0, none⟩ : Addr).add 5)) fun x16_5 =>
 oI .i64 (h_6.cell ((⟨b2, 0, none⟩ : Addr).add 6)) fun x16_6 =>
 xNew h_6 (.cells #[(.int .i64 x15_0), (.int .i64 x15_1), (.int .i64 x15_2), (.int .i64 x15_3), (.int .i64 x15_4), (.int .i64 x15_5), (.int .i64 x15_6), (.int .i64 x16_0), (.int .i64 x16_1), (.int .i64 x16_2), (.int .i64 x16_3), (.int .i64 x16_4), (.int .i64 x16_5), (.int .i64 x16_6)] 61 (0, 0)) fun b17 h_7 =>
 Meets Try.prog 25 #[(.int .i64 2), (.int .i64 1), (.int .i64 1), (.slice (some (⟨b17, 0, none⟩ : Addr)) 2 2)] h_7 fun v18 h_8 =>
 oTup v18 2 fun x18cs =>
 oIx x18cs[0]? fun x18w =>
 oB (some x18w) fun x18_0 =>
 oIx x18cs[1]? fun x18w_1 =>
 oI .i64 (some x18w_1) fun x18_1 =>
 oB (some (.bool x18_0)) fun x19 =>
 oI .i64 (some (.int .i64 x18_1)) fun x20 =>
 oI .i64 (h_8.cell ((⟨b2, 0, none⟩ : Addr).add 0)) fun x22_0 =>
 oI .i64 (h_8.cell ((⟨b2, 0, none⟩ : Addr).add 1)) fun x22_1 =>
 oI .i64 (h_8.cell ((⟨b2, 0, none⟩ : Addr).add 2)) fun x22_2 =>
 oI .i64 (h_8.cell ((⟨b2, 0, none⟩ : Addr).add 3)) fun x22_3 =>
 oI .i64 (h_8.cell ((⟨b2, 0, none⟩ : Addr).add 4)) fun x22_4 =>
 oI .i64 (h_8.cell ((⟨b2, 0, none⟩ : Addr).add 5)) fun x22_5 =>
 oI .i64 (h_8.cell ((⟨b2, 0, none⟩ : Addr).add 6)) fun x22_6 =>
 oI .i64 (h_8.cell ((⟨b1, 0, none⟩ : Addr).add 0)) fun x23_0 =>
 oI .i64 (h_8.cell ((⟨b1, 0, none⟩ : Addr).add 1)) fun x23_1 =>
 oI .i64 (h_8.cell ((⟨b1, 0, none⟩ : Addr).add 2)) fun x23_2 =>
 oI .i64 (h_8.cell ((⟨b1, 0, none⟩ : Addr).add 3)) fun x23_3 =>
 oI .i64 (h_8.cell ((⟨b1, 0, none⟩ : Addr).add 4)) fun x23_4 =>
 oI .i64 (h_8.cell ((⟨b1, 0, none⟩ : Addr).add 5)) fun x23_5 =>
 oI .i64 (h_8.cell ((⟨b1, 0, none⟩ : Addr).add 6)) fun x23_6 =>
 oI .i64 (h_8.cell ((⟨b3, 0, none⟩ : Addr).add 0)) fun x24_0 =>
 oI .i64 (h_8.cell ((⟨b3, 0, none⟩ : Addr).add 1)) fun x24_1 =>
 oI .i64 (h_8.cell ((⟨b3, 0, none⟩ : Addr).add 2)) fun x24_2 =>
 oI .i64 (h_8.cell ((⟨b3, 0, none⟩ : Addr).add 3)) fun x24_3 =>
 oI .i64 (h_8.cell ((⟨b3, 0, none⟩ : Addr).add 4)) fun x24_4 =>
 oI .i64 (h_8.cell ((⟨b3, 0, none⟩ : Addr).add 5)) fun x24_5 =>
 oI .i64 (h_8.cell ((⟨b3, 0, none⟩ : Addr).add 6)) fun x24_6 =>
 xNew h_8 (.cells #[(.int .i64 x22_0), (.int .i64 x22_1), (.int .i64 x22_2), (.int .i64 x22_3), (.int .i64 x22_4), (.int .i64 x22_5), (.int .i64 x22_6), (.int .i64 x23_0), (.int .i64 x23_1), (.int .i64 x23_2), (.int .i64 x23_3), (.int .i64 x23_4), (.int .i64 x23_5), (.int .i64 x23_6), (.int .i64 x24_0), (.int .i64 x24_1), (.int .i64 x24_2), (.int .i64 x24_3), (.int .i64 x24_4), (.int .i64 x24_5), (.int .i64 x24_6)] 61 (0, 0)) fun b25 h_9 =>
 Meets Try.prog 27 #[(.int .i64 2), (.int .i64 1), (.int .i64 1), (.slice (some (⟨b25, 0, none⟩ : Addr)) 3 3)] h_9 fun v26 h_10 =>
 oTup v26 2 fun x26cs =>
 oIx x26cs[0]? fun x26w =>
 oS (some x26w) fun x26_0a x26_0l x26_0c =>
 oIx x26cs[1]? fun x26w_1 =>
 oI .i64 (some x26w_1) fun x26_1 =>
 oS (some (.slice x26_0a x26_0l x26_0c)) fun x27a x27l x27c =>
 oI .i64 (some (.int .i64 x26_1)) fun x28 =>
 xSc (!x19) true (fun J_1 =>
 J_1 (x20 == 0) h_10)
 (fun r34 h_11 =>
 xSc r34 true (fun J_2 =>
 J_2 (x28 == 0) h_11)
 (fun r38 h_12 =>
 xSc r38 true (fun J_3 =>
 J_3 (((x27l : Nat) : Int) == 3) h_12)
 (fun r43 h_13 =>
 xSc r43 true (fun J_4 =>
 xIdx x27a x27l 0 1 fun x46 =>
 oI .i64 (h_13.cell x46) fun x47 =>
 J_4 (x47 == 1) h_13)
 (fun r49 h_14 =>
 xSc r49 true (fun J_5 =>
 xIdx x27a x27l 1 1 fun x52 =>
 oI .i64 (h_14.cell x52) fun x53 =>
 J_5 (x53 == 2) h_14)
 (fun r55 h_15 =>
 xSc r55 true (fun J_6 =>
 xIdx x27a x27l 2 1 fun x58 =>
 oI .i64 (h_15.cell x58) fun x59 =>
 J_6 (x59 == 0) h_15)
 (fun r61 h_16 =>
 Q (.bool r61) h_16) h_15) h_14) h_13) h_12) h_11) h_10
theorem P_law23_alive_eq  (h : PH) (Q : Value → PH → Prop) : dFn Try.prog Try.f24 A_law23_alive #[] h Q = P_law23_alive  h Q := by kernel_rfl
theorem P_law23_alive_of  {h : PH} {Q : Value → PH → Prop} (x : P_law23_alive  h Q) : Meets Try.prog 24 #[] h Q :=
  spec_of Try.func24 mix (by kernel_rfl) ((P_law23_alive_eq  h Q).symm ▸ x)
/-- futtock/check.Can -/
def A_check_Can : Ann := .seq (.leaf) (.seq (.leaf) (.seq (.leaf) (.leaf)))
def P_check_Can (a0 : Int) (a1 : Int) (a2 : Int) (a3a : Option Addr) (a3l : Nat) (a3c : Nat) (h : PH) (Q : Value → PH → Prop) : Prop :=
 Meets Try.prog 61 #[(.int .i64 a0), (.int .i64 a1), (.int .i64 a2), (.slice a3a a3l a3c)] h fun v18 h_1 =>
 oTup v18 3 fun x18cs =>
 oIx x18cs[0]? fun x18w =>
 oS (some x18w) fun x18_0a x18_0l x18_0c =>
 oIx x18cs[1]? fun x18w_1 =>
 oB (some x18w_1) fun x18_1 =>
 oIx x18cs[2]? fun x18w_2 =>
 oI .i64 (some x18w_2) fun x18_2 =>
 oS (some (.slice x18_0a x18_0l x18_0c)) fun x19a x19l x19c =>
 oB (some (.bool x18_1)) fun x20 =>
 oI .i64 (some (.int .i64 x18_2)) fun x21 =>
 Q (.tuple #[(.bool x20), (.int .i64 x21)]) h_1
theorem P_check_Can_eq (a0 : Int) (a1 : Int) (a2 : Int) (a3a : Option Addr) (a3l : Nat) (a3c : Nat) (h : PH) (Q : Value → PH → Prop) : dFn Try.prog Try.f25 A_check_Can #[(.int .i64 a0), (.int .i64 a1), (.int .i64 a2), (.slice a3a a3l a3c)] h Q = P_check_Can a0 a1 a2 a3a a3l a3c h Q := by kernel_rfl
theorem P_check_Can_of {a0 : Int} {a1 : Int} {a2 : Int} {a3a : Option Addr} {a3l : Nat} {a3c : Nat} {h : PH} {Q : Value → PH → Prop} (x : P_check_Can a0 a1 a2 a3a a3l a3c h Q) : Meets Try.prog 25 #[(.int .i64 a0), (.int .i64 a1), (.int .i64 a2), (.slice a3a a3l a3c)] h Q :=
  spec_of Try.func25 mix (by kernel_rfl) ((P_check_Can_eq a0 a1 a2 a3a a3l a3c h Q).symm ▸ x)
/-- futtock/futtocklaw23.theirs -/
def A_law23_theirs : Ann := .seq (.leaf) (.seq (.leaf) (.seq (.seq (.leaf) (.block [(3, .slice)] (.loop [(3, .slice), (9, (.int .i64))] (.seq (.leaf) (.seq (.cond [] (.leaf) (.leaf)) (.seq (.block [(3, .slice)] (.seq (.leaf) (.seq (.leaf) (.leaf)))) (.leaf))))))) (.seq (.leaf) (.leaf))))
def P_law23_theirs (a0a : Option Addr) (a0l : Nat) (a0c : Nat) (h : PH) (Q : Value → PH → Prop) : Prop :=
 xBlk (fun J_1 =>
 ∃ n, xLoopN (fun _ _ _ _ _ => False) (fun J_2 =>
 (fun (x3a : Option Addr) (x3l : Nat) (x3c : Nat) (x9 : Int) (h_1 : PH) =>
 xIte (decide ((x9 : Int) < ((a0l : Nat) : Int))) (fun J_3 =>
 J_3 h_1)
 (fun J_3 =>
 J_1 x3a x3l x3c h_1)
 (fun  (h_2 : PH) =>
 xBlk (fun J_4 =>
 xIdx a0a a0l x9 7 fun x11 =>
 oI .i64 (h_2.cell (x11.add 0)) fun x12_0 =>
 oI .i64 (h_2.cell (x11.add 1)) fun x12_1 =>
 oI .i64 (h_2.cell (x11.add 2)) fun x12_2 =>
 oI .i64 (h_2.cell (x11.add 3)) fun x12_3 =>
 oI .i64 (h_2.cell (x11.add 4)) fun x12_4 =>
 oI .i64 (h_2.cell (x11.add 5)) fun x12_5 =>
 oI .i64 (h_2.cell (x11.add 6)) fun x12_6 =>
 xNew h_2 (.cells #[(.int .i64 0), (.int .i64 0), (.int .i64 0), (.int .i64 0), (.int .i64 0), (.int .i64 0), (.int .i64 0)] 65 (0, 0)) fun b5 h_3 =>
 xSt 7 h_3 (⟨b5, 0, none⟩ : Addr) [(.int .i64 x12_0), (.int .i64 x12_1), (.int .i64 x12_2), (.int .i64 x12_3), (.int .i64 x12_4), (.int .i64 x12_5), (.int .i64 x12_6)] fun h_4 =>
 oI .i64 (h_4.cell (((⟨b5, 0, none⟩ : Addr).add 0).add 0)) fun x14_0 =>
 oI .i64 (h_4.cell (((⟨b5, 0, none⟩ : Addr).add 0).add 1)) fun x14_1 =>
 oI .i64 (h_4.cell (((⟨b5, 0, none⟩ : Addr).add 0).add 2)) fun x14_2 =>
 oI .i64 (h_4.cell (((⟨b5, 0, none⟩ : Addr).add 0).add 3)) fun x14_3 =>
 oI .i64 (h_4.cell (((⟨b5, 0, none⟩ : Addr).add 0).add 4)) fun x14_4 =>
 xNew h_4 (.cells #[(.int .i64 0), (.int .i64 0), (.int .i64 0), (.int .i64 0), (.int .i64 0)] 29 (0, 0)) fun b6 h_5 =>
 xSt 5 h_5 (⟨b6, 0, none⟩ : Addr) [(.int .i64 x14_0), (.int .i64 x14_1), (.int .i64 x14_2), (.int .i64 x14_3), (.int .i64 x14_4)] fun h_6 =>
 oI .i64 (h_6.cell ((⟨b6, 0, none⟩ : Addr).add 0)) fun x17 =>
 oI .i64 (h_6.cell ((⟨b6, 0, none⟩ : Addr).add 1)) fun x19 =>
 oI .i64 (h_6.cell ((⟨b6, 0, none⟩ : Addr).add 2)) fun x21 =>
 oI .i64 (h_6.cell ((⟨b6, 0, none⟩ : Addr).add 3)) fun x23 =>
 oI .i64 (h_6.cell ((⟨b6, 0, none⟩ : Addr).add 4)) fun x25 =>
 oI .i64 (h_6.cell ((⟨b5, 0, none⟩ : Addr).add 5)) fun x28 =>
 oI .i64 (h_6.cell ((⟨b5, 0, none⟩ : Addr).add 6)) fun x30 =>
 xNew h_6 (.cells #[(.int .i64 x17), (.int .i64 x19), (.int .i64 x21), (.int .i64 x23), (.int .i64 x25), (.int .i64 x28), (.int .i64 x30)] 61 (0, 0)) fun b32 h_7 =>
 xApp h_7 61 7 56 x3a x3l x3c (.slice (some (⟨b32, 0, none⟩ : Addr)) 1 1) fun x33a x33l x33c h_8 =>
 J_4 x33a x33l x33c h_8)
 (fun (x3a_1 : Option Addr) (x3l_1 : Nat) (x3c_1 : Nat) (h_9 : PH) =>
 J_2 x3a_1 x3l_1 x3c_1 (IntKind.wrap .i64 (x9 + 1)) h_9)))) n none 0 0 0 h)
 (fun (x3a_2 : Option Addr) (x3l_2 : Nat) (x3c_2 : Nat) (h_10 : PH) =>
 Q (.slice x3a_2 x3l_2 x3c_2) h_10)
theorem P_law23_theirs_eq (a0a : Option Addr) (a0l : Nat) (a0c : Nat) (h : PH) (Q : Value → PH → Prop) : dFn Try.prog Try.f26 A_law23_theirs #[(.slice a0a a0l a0c)] h Q = P_law23_theirs a0a a0l a0c h Q := by kernel_rfl
theorem P_law23_theirs_of {a0a : Option Addr} {a0l : Nat} {a0c : Nat} {h : PH} {Q : Value → PH → Prop} (x : P_law23_theirs a0a a0l a0c h Q) : Meets Try.prog 26 #[(.slice a0a a0l a0c)] h Q :=
  spec_of Try.func26 mix (by kernel_rfl) ((P_law23_theirs_eq a0a a0l a0c h Q).symm ▸ x)
/-- futtock/check.Order -/
def A_check_Order : Ann := .seq (.leaf) (.seq (.leaf) (.seq (.leaf) (.leaf)))
def P_check_Order (a0 : Int) (a1 : Int) (a2 : Int) (a3a : Option Addr) (a3l : Nat) (a3c : Nat) (h : PH) (Q : Value → PH → Prop) : Prop :=
 Meets Try.prog 61 #[(.int .i64 a0), (.int .i64 a1), (.int .i64 a2), (.slice a3a a3l a3c)] h fun v18 h_1 =>
 oTup v18 3 fun x18cs =>
 oIx x18cs[0]? fun x18w =>
 oS (some x18w) fun x18_0a x18_0l x18_0c =>
 oIx x18cs[1]? fun x18w_1 =>
 oB (some x18w_1) fun x18_1 =>
 oIx x18cs[2]? fun x18w_2 =>
 oI .i64 (some x18w_2) fun x18_2 =>
 oS (some (.slice x18_0a x18_0l x18_0c)) fun x19a x19l x19c =>
 oB (some (.bool x18_1)) fun x20 =>
 oI .i64 (some (.int .i64 x18_2)) fun x21 =>
 Q (.tuple #[(.slice x19a x19l x19c), (.int .i64 x21)]) h_1
theorem P_check_Order_eq (a0 : Int) (a1 : Int) (a2 : Int) (a3a : Option Addr) (a3l : Nat) (a3c : Nat) (h : PH) (Q : Value → PH → Prop) : dFn Try.prog Try.f27 A_check_Order #[(.int .i64 a0), (.int .i64 a1), (.int .i64 a2), (.slice a3a a3l a3c)] h Q = P_check_Order a0 a1 a2 a3a a3l a3c h Q := by kernel_rfl
theorem P_check_Order_of {a0 : Int} {a1 : Int} {a2 : Int} {a3a : Option Addr} {a3l : Nat} {a3c : Nat} {h : PH} {Q : Value → PH → Prop} (x : P_check_Order a0 a1 a2 a3a a3l a3c h Q) : Meets Try.prog 27 #[(.int .i64 a0), (.int .i64 a1), (.int .i64 a2), (.slice a3a a3l a3c)] h Q :=
  spec_of Try.func27 mix (by kernel_rfl) ((P_check_Order_eq a0 a1 a2 a3a a3l a3c h Q).symm ▸ x)
/-- futtock/check.May -/
def A_check_May : Ann := .seq (.leaf) (.seq (.seq (.leaf) (.cond [] (.seq (.leaf) (.leaf)) (.leaf))) (.seq (.seq (.leaf) (.block [] (.seq (.seq (.leaf) (.cond [(11, .bool)] (.leaf) (.seq (.leaf) (.cond [(11, .bool)] (.leaf) (.seq (.leaf) (.cond [(11, .bool)] (.leaf) (.seq (.leaf) (.cond [(11, .bool)] (.leaf) (.seq (.leaf) (.cond [(11, .bool)] (.leaf) (.leaf))))))))))) (.cond [] (.seq (.leaf) (.leaf)) (.seq (.leaf) (.cond [] (.seq (.leaf) (.leaf)) (.seq (.leaf) (.cond [] (.seq (.leaf) (.leaf)) (.leaf))))))))) (.seq (.leaf) (.leaf))))
def P_check_May (a0_0 : Int) (a0_1 : Int) (a0_2 : Int) (a0_3 : Int) (a0_4 : Int) (a0_5 : Int) (a0_6 : Int) (h : PH) (Q : Value → PH → Prop) : Prop :=
 xNew h (.cells #[(.int .i64 a0_0), (.int .i64 a0_1), (.int .i64 a0_2), (.int .i64 a0_3), (.int .i64 a0_4), (.int .i64 a0_5), (.int .i64 a0_6)] 61 (0, 0)) fun b1 h_1 =>
 oI .i64 (h_1.cell ((⟨b1, 0, none⟩ : Addr).add 5)) fun x4 =>
 oI .i64 (h_1.cell ((⟨b1, 0, none⟩ : Addr).add 6)) fun x6 =>
 xIte (decide ((x4 : Int) ≥ x6)) (fun J_1 =>
 Q (.bool false) h_1)
 (fun J_1 =>
 J_1 h_1)
 (fun  (h_2 : PH) =>
 oI .i64 (h_2.cell (((⟨b1, 0, none⟩ : Addr).add 0).add 0)) fun x10 =>
 xBlk (fun J_2 =>
 xIte (x10 == 1) (fun J_3 =>
 J_3 (x10 == 1) h_2)
 (fun J_3 =>
 xIte (x10 == 2) (fun J_4 =>
 J_4 (x10 == 2) h_2)
 (fun J_4 =>
 xIte (x10 == 3) (fun J_5 =>
 J_5 (x10 == 3) h_2)
 (fun J_5 =>
 xIte (x10 == 9) (fun J_6 =>
 J_6 (x10 == 9) h_2)
 (fun J_6 =>
 xIte (x10 == 11) (fun J_7 =>
 J_7 (x10 == 11) h_2)
 (fun J_7 =>
 J_7 (x10 == 12) h_2)
 (fun (x11 : Bool) (h_3 : PH) =>
 J_6 x11 h_3))
 (fun (x11_1 : Bool) (h_4 : PH) =>
 J_5 x11_1 h_4))
 (fun (x11_2 : Bool) (h_5 : PH) =>
 J_4 x11_2 h_5))
 (fun (x11_3 : Bool) (h_6 : PH) =>
 J_3 x11_3 h_6))
 (fun (x11_4 : Bool) (h_7 : PH) =>
 xIte x11_4 (fun J_8 =>
 Q (.bool true) h_7)
 (fun J_8 =>
 xIte (x10 == 8) (fun J_9 =>
 oI .i64 (h_7.cell (((⟨b1, 0, none⟩ : Addr).add 0).add 3)) fun x22 =>
 Q (.bool (x22 == (-1))) h_7)
 (fun J_9 =>
 xIte (x10 == 10) (fun J_10 =>
 oI .i64 (h_7.cell (((⟨b1, 0, none⟩ : Addr).add 0).add 4)) fun x28 =>
 Q (.bool (x28 == 0)) h_7)
 (fun J_10 =>
 J_10 h_7)
 (fun  (h_8 : PH) =>
 J_9 h_8))
 (fun  (h_9 : PH) =>
 J_8 h_9))
 (fun  (h_10 : PH) =>
 J_2 h_10)))
 (fun  (h_11 : PH) =>
 Q (.bool false) h_11))
theorem P_check_May_eq (a0_0 : Int) (a0_1 : Int) (a0_2 : Int) (a0_3 : Int) (a0_4 : Int) (a0_5 : Int) (a0_6 : Int) (h : PH) (Q : Value → PH → Prop) : dFn Try.prog Try.f29 A_check_May #[(.agg #[(.int .i64 a0_0), (.int .i64 a0_1), (.int .i64 a0_2), (.int .i64 a0_3), (.int .i64 a0_4), (.int .i64 a0_5), (.int .i64 a0_6)])] h Q = P_check_May a0_0 a0_1 a0_2 a0_3 a0_4 a0_5 a0_6 h Q := by kernel_rfl
theorem P_check_May_of {a0_0 : Int} {a0_1 : Int} {a0_2 : Int} {a0_3 : Int} {a0_4 : Int} {a0_5 : Int} {a0_6 : Int} {h : PH} {Q : Value → PH → Prop} (x : P_check_May a0_0 a0_1 a0_2 a0_3 a0_4 a0_5 a0_6 h Q) : Meets Try.prog 29 #[(.agg #[(.int .i64 a0_0), (.int .i64 a0_1), (.int .i64 a0_2), (.int .i64 a0_3), (.int .i64 a0_4), (.int .i64 a0_5), (.int .i64 a0_6)])] h Q :=
  spec_of Try.func29 mix (by kernel_rfl) ((P_check_May_eq a0_0 a0_1 a0_2 a0_3 a0_4 a0_5 a0_6 h Q).symm ▸ x)
/-- futtock/check.Serial -/
def A_check_Serial : Ann := .seq (.leaf) (.seq (.leaf) (.seq (.seq (.leaf) (.cond [] (.seq (.leaf) (.leaf)) (.leaf))) (.seq (.seq (.leaf) (.block [] (.loop [(25, (.int .i64))] (.seq (.leaf) (.seq (.cond [] (.leaf) (.leaf)) (.seq (.block [] (.seq (.leaf) (.seq (.leaf) (.cond [] (.seq (.leaf) (.leaf)) (.leaf))))) (.leaf))))))) (.seq (.leaf) (.leaf)))))
def P_check_Serial (a0 : Int) (a1 : Int) (a2 : Int) (a3a : Option Addr) (a3l : Nat) (a3c : Nat) (h : PH) (Q : Value → PH → Prop) : Prop :=
 Meets Try.prog 11 #[(.int .i64 a0), (.int .i64 a1), (.int .i64 a2)] h fun v18 h_1 =>
 oTup v18 2 fun x18cs =>
 oIx x18cs[0]? fun x18w =>
 oP (some x18w) fun x18_0 =>
 oIx x18cs[1]? fun x18w_1 =>
 oI .i64 (some x18w_1) fun x18_1 =>
 oP (some (.pointer x18_0)) fun x19 =>
 oI .i64 (some (.int .i64 x18_1)) fun x20 =>
 xIte (x20 != 0) (fun J_1 =>
 Q (.tuple #[(.int .i64 0), (.bool false)]) h_1)
 (fun J_1 =>
 J_1 h_1)
 (fun  (h_2 : PH) =>
 xBlk (fun J_2 =>
 ∃ n, xLoopN (fun _ _ => False) (fun J_3 =>
 (fun (x25 : Int) (h_3 : PH) =>
 xIte (decide ((x25 : Int) < ((a3l : Nat) : Int))) (fun J_4 =>
 J_4 h_3)
 (fun J_4 =>
 J_2 h_3)
 (fun  (h_4 : PH) =>
 xBlk (fun J_5 =>
 xIdx a3a a3l x25 7 fun x28 =>
 oI .i64 (h_4.cell (x28.add 0)) fun x29_0 =>
 oI .i64 (h_4.cell (x28.add 1)) fun x29_1 =>
 oI .i64 (h_4.cell (x28.add 2)) fun x29_2 =>
 oI .i64 (h_4.cell (x28.add 3)) fun x29_3 =>
 oI .i64 (h_4.cell (x28.add 4)) fun x29_4 =>
 oI .i64 (h_4.cell (x28.add 5)) fun x29_5 =>
 oI .i64 (h_4.cell (x28.add 6)) fun x29_6 =>
 xNew h_4 (.cells #[(.int .i64 0), (.int .i64 0), (.int .i64 0), (.int .i64 0), (.int .i64 0), (.int .i64 0), (.int .i64 0)] 61 (0, 0)) fun b13 h_5 =>
 xSt 7 h_5 (⟨b13, 0, none⟩ : Addr) [(.int .i64 x29_0), (.int .i64 x29_1), (.int .i64 x29_2), (.int .i64 x29_3), (.int .i64 x29_4), (.int .i64 x29_5), (.int .i64 x29_6)] fun h_6 =>
 oI .i64 (h_6.cell (((⟨b13, 0, none⟩ : Addr).add 0).add 0)) fun x32_0 =>
 oI .i64 (h_6.cell (((⟨b13, 0, none⟩ : Addr).add 0).add 1)) fun x32_1 =>
 oI .i64 (h_6.cell (((⟨b13, 0, none⟩ : Addr).add 0).add 2)) fun x32_2 =>
 oI .i64 (h_6.cell (((⟨b13, 0, none⟩ : Addr).add 0).add 3)) fun x32_3 =>
 oI .i64 (h_6.cell (((⟨b13, 0, none⟩ : Addr).add 0).add 4)) fun x32_4 =>
 Meets Try.prog 14 #[(.pointer x19), (.agg #[(.int .i64 x32_0), (.int .i64 x32_1), (.int .i64 x32_2), (.int .i64 x32_3), (.int .i64 x32_4)])] h_6 fun v33 h_7 =>
 oI .i64 (some v33) fun x33 =>
 xIte (x33 != 0) (fun J_6 =>
 Q (.tuple #[(.int .i64 x25), (.bool false)]) h_7)
 (fun J_6 =>
 J_6 h_7)
 (fun  (h_8 : PH) =>
 J_5 h_8))
 (fun  (h_9 : PH) =>
 J_3 (IntKind.wrap .i64 (x25 + 1)) h_9)))) n 0 h_2)
 (fun  (h_10 : PH) =>
 Q (.tuple #[(.int .i64 ((a3l : Nat) : Int)), (.bool true)]) h_10))
theorem P_check_Serial_eq (a0 : Int) (a1 : Int) (a2 : Int) (a3a : Option Addr) (a3l : Nat) (a3c : Nat) (h : PH) (Q : Value → PH → Prop) : dFn Try.prog Try.f31 A_check_Serial #[(.int .i64 a0), (.int .i64 a1), (.int .i64 a2), (.slice a3a a3l a3c)] h Q = P_check_Serial a0 a1 a2 a3a a3l a3c h Q := by kernel_rfl
theorem P_check_Serial_of {a0 : Int} {a1 : Int} {a2 : Int} {a3a : Option Addr} {a3l : Nat} {a3c : Nat} {h : PH} {Q : Value → PH → Prop} (x : P_check_Serial a0 a1 a2 a3a a3l a3c h Q) : Meets Try.prog 31 #[(.int .i64 a0), (.int .i64 a1), (.int .i64 a2), (.slice a3a a3l a3c)] h Q :=
  spec_of Try.func31 mix (by kernel_rfl) ((P_check_Serial_eq a0 a1 a2 a3a a3l a3c h Q).symm ▸ x)
/-- futtock/check.ask -/
def A_check_ask : Ann := .seq (.leaf) (.seq (.leaf) (.seq (.seq (.leaf) (.cond [] (.seq (.leaf) (.leaf)) (.leaf))) (.seq (.seq (.leaf) (.block [] (.loop [(29, (.int .i64))] (.seq (.leaf) (.seq (.cond [] (.leaf) (.leaf)) (.seq (.block [] (.seq (.leaf) (.seq (.leaf) (.cond [] (.seq (.leaf) (.leaf)) (.leaf))))) (.leaf))))))) (.seq (.seq (.leaf) (.cond [] (.seq (.leaf) (.leaf)) (.leaf))) (.seq (.leaf) (.seq (.leaf) (.seq (.leaf) (.leaf))))))))
def P_check_ask (a0 : Int) (a1 : Int) (a2 : Int) (a3a : Option Addr) (a3l : Nat) (a3c : Nat) (h : PH) (Q : Value → PH → Prop) : Prop :=
 Meets Try.prog 11 #[(.int .i64 a0), (.int .i64 a1), (.int .i64 a2)] h fun v22 h_1 =>
 oTup v22 2 fun x22cs =>
 oIx x22cs[0]? fun x22w =>
 oP (some x22w) fun x22_0 =>
 oIx x22cs[1]? fun x22w_1 =>
 oI .i64 (some x22w_1) fun x22_1 =>
 oP (some (.pointer x22_0)) fun x23 =>
 oI .i64 (some (.int .i64 x22_1)) fun x24 =>
 xIte (x24 != 0) (fun J_1 =>
 Q (.tuple #[(.slice none 0 0), (.bool false), (.int .i64 1)]) h_1)
 (fun J_1 =>
 J_1 h_1)
 (fun  (h_2 : PH) =>
 xBlk (fun J_2 =>
 ∃ n, xLoopN (fun _ _ => False) (fun J_3 =>
 (fun (x29 : Int) (h_3 : PH) =>
 xIte (decide ((x29 : Int) < ((a3l : Nat) : Int))) (fun J_4 =>
 J_4 h_3)
 (fun J_4 =>
 J_2 h_3)
 (fun  (h_4 : PH) =>
 xBlk (fun J_5 =>
 xIdx a3a a3l x29 7 fun x31 =>
 oI .i64 (h_4.cell (x31.add 0)) fun x32_0 =>
 oI .i64 (h_4.cell (x31.add 1)) fun x32_1 =>
 oI .i64 (h_4.cell (x31.add 2)) fun x32_2 =>
 oI .i64 (h_4.cell (x31.add 3)) fun x32_3 =>
 oI .i64 (h_4.cell (x31.add 4)) fun x32_4 =>
 oI .i64 (h_4.cell (x31.add 5)) fun x32_5 =>
 oI .i64 (h_4.cell (x31.add 6)) fun x32_6 =>
 xNew h_4 (.cells #[(.int .i64 0), (.int .i64 0), (.int .i64 0), (.int .i64 0), (.int .i64 0), (.int .i64 0), (.int .i64 0)] 61 (0, 0)) fun b14 h_5 =>
 xSt 7 h_5 (⟨b14, 0, none⟩ : Addr) [(.int .i64 x32_0), (.int .i64 x32_1), (.int .i64 x32_2), (.int .i64 x32_3), (.int .i64 x32_4), (.int .i64 x32_5), (.int .i64 x32_6)] fun h_6 =>
 oI .i64 (h_6.cell ((⟨b14, 0, none⟩ : Addr).add 0)) fun x33_0 =>
 oI .i64 (h_6.cell ((⟨b14, 0, none⟩ : Addr).add 1)) fun x33_1 =>
 oI .i64 (h_6.cell ((⟨b14, 0, none⟩ : Addr).add 2)) fun x33_2 =>
 oI .i64 (h_6.cell ((⟨b14, 0, none⟩ : Addr).add 3)) fun x33_3 =>
 oI .i64 (h_6.cell ((⟨b14, 0, none⟩ : Addr).add 4)) fun x33_4 =>
 oI .i64 (h_6.cell ((⟨b14, 0, none⟩ : Addr).add 5)) fun x33_5 =>
 oI .i64 (h_6.cell ((⟨b14, 0, none⟩ : Addr).add 6)) fun x33_6 =>
 Meets Try.prog 29 #[(.agg #[(.int .i64 x33_0), (.int .i64 x33_1), (.int .i64 x33_2), (.int .i64 x33_3), (.int .i64 x33_4), (.int .i64 x33_5), (.int .i64 x33_6)])] h_6 fun v34 h_7 =>
 oB (some v34) fun x34 =>
 xIte (!x34) (fun J_6 =>
 Q (.tuple #[(.slice none 0 0), (.bool false), (.int .i64 1)]) h_7)
 (fun J_6 =>
 J_6 h_7)
 (fun  (h_8 : PH) =>
 J_5 h_8))
 (fun  (h_9 : PH) =>
 J_3 (IntKind.wrap .i64 (x29 + 1)) h_9)))) n 0 h_2)
 (fun  (h_10 : PH) =>
 xIte (decide ((((a3l : Nat) : Int) : Int) > 12)) (fun J_7 =>
 Q (.tuple #[(.slice none 0 0), (.bool false), (.int .i64 5)]) h_10)
 (fun J_7 =>
 J_7 h_10)
 (fun  (h_11 : PH) =>
 Meets Try.prog 88 #[(.slice a3a a3l a3c)] h_11 fun v42 h_12 =>
 oS (some v42) fun x42a x42l x42c =>
 xNew h_12 (.map #[] 0) fun b43 h_13 =>
 xNew h_13 (.cells #[(.slice a3a a3l a3c), (.slice x42a x42l x42c), (.map (some b43))] 165 (0, 0)) fun b45 h_14 =>
 Meets Try.prog 89 #[(.pointer (some (⟨b45, 0, none⟩ : Addr))), (.int .u64 0), (.pointer x23)] h_14 fun v49 h_15 =>
 oTup v49 2 fun x49cs =>
 oIx x49cs[0]? fun x49w =>
 oS (some x49w) fun x49_0a x49_0l x49_0c =>
 oIx x49cs[1]? fun x49w_1 =>
 oB (some x49w_1) fun x49_1 =>
 oS (some (.slice x49_0a x49_0l x49_0c)) fun x50a x50l x50c =>
 oB (some (.bool x49_1)) fun x51 =>
 Q (.tuple #[(.slice x50a x50l x50c), (.bool x51), (.int .i64 0)]) h_15)))
theorem P_check_ask_eq (a0 : Int) (a1 : Int) (a2 : Int) (a3a : Option Addr) (a3l : Nat) (a3c : Nat) (h : PH) (Q : Value → PH → Prop) : dFn Try.prog Try.f61 A_check_ask #[(.int .i64 a0), (.int .i64 a1), (.int .i64 a2), (.slice a3a a3l a3c)] h Q = P_check_ask a0 a1 a2 a3a a3l a3c h Q := by kernel_rfl
theorem P_check_ask_of {a0 : Int} {a1 : Int} {a2 : Int} {a3a : Option Addr} {a3l : Nat} {a3c : Nat} {h : PH} {Q : Value → PH → Prop} (x : P_check_ask a0 a1 a2 a3a a3l a3c h Q) : Meets Try.prog 61 #[(.int .i64 a0), (.int .i64 a1), (.int .i64 a2), (.slice a3a a3l a3c)] h Q :=
  spec_of Try.func61 mix (by kernel_rfl) ((P_check_ask_eq a0 a1 a2 a3a a3l a3c h Q).symm ▸ x)
/-- futtock/check.ahead -/
def A_check_ahead : Ann := .seq (.leaf) (.seq (.leaf) (.seq (.seq (.leaf) (.block [(3, .slice)] (.loop [(3, .slice), (11, (.int .i64))] (.seq (.leaf) (.seq (.cond [] (.leaf) (.leaf)) (.seq (.block [(3, .slice)] (.seq (.leaf) (.seq (.leaf) (.seq (.seq (.leaf) (.block [(6, (.int .u64))] (.loop [(6, (.int .u64)), (17, (.int .i64))] (.seq (.leaf) (.seq (.cond [] (.leaf) (.leaf)) (.seq (.block [(6, (.int .u64))] (.seq (.leaf) (.seq (.leaf) (.cond [(6, (.int .u64))] (.leaf) (.leaf))))) (.leaf))))))) (.leaf))))) (.leaf))))))) (.seq (.leaf) (.leaf))))
def P_check_ahead (a0a : Option Addr) (a0l : Nat) (a0c : Nat) (h : PH) (Q : Value → PH → Prop) : Prop :=
 xBlk (fun J_1 =>
 ∃ n, xLoopN (fun _ _ _ _ _ => False) (fun J_2 =>
 (fun (x3a : Option Addr) (x3l : Nat) (x3c : Nat) (x11 : Int) (h_1 : PH) =>
 xIte (decide ((x11 : Int) < ((a0l : Nat) : Int))) (fun J_3 =>
 J_3 h_1)
 (fun J_3 =>
 J_1 x3a x3l x3c h_1)
 (fun  (h_2 : PH) =>
 xBlk (fun J_4 =>
 xIdx a0a a0l x11 7 fun x13 =>
 oI .i64 (h_2.cell (x13.add 0)) fun x14_0 =>
 oI .i64 (h_2.cell (x13.add 1)) fun x14_1 =>
 oI .i64 (h_2.cell (x13.add 2)) fun x14_2 =>
 oI .i64 (h_2.cell (x13.add 3)) fun x14_3 =>
 oI .i64 (h_2.cell (x13.add 4)) fun x14_4 =>
 oI .i64 (h_2.cell (x13.add 5)) fun x14_5 =>
 oI .i64 (h_2.cell (x13.add 6)) fun x14_6 =>
 xNew h_2 (.cells #[(.int .i64 0), (.int .i64 0), (.int .i64 0), (.int .i64 0), (.int .i64 0), (.int .i64 0), (.int .i64 0)] 61 (0, 0)) fun b5 h_3 =>
 xSt 7 h_3 (⟨b5, 0, none⟩ : Addr) [(.int .i64 x14_0), (.int .i64 x14_1), (.int .i64 x14_2), (.int .i64 x14_3), (.int .i64 x14_4), (.int .i64 x14_5), (.int .i64 x14_6)] fun h_4 =>
 xBlk (fun J_5 =>
 ∃ n_1, xLoopN (fun _ _ _ => False) (fun J_6 =>
 (fun (x6 : Int) (x17 : Int) (h_5 : PH) =>
 xIte (decide ((x17 : Int) < ((a0l : Nat) : Int))) (fun J_7 =>
 J_7 h_5)
 (fun J_7 =>
 J_5 x6 h_5)
 (fun  (h_6 : PH) =>
 xBlk (fun J_8 =>
 xIdx a0a a0l x17 7 fun x20 =>
 oI .i64 (h_6.cell (x20.add 0)) fun x21_0 =>
 oI .i64 (h_6.cell (x20.add 1)) fun x21_1 =>
 oI .i64 (h_6.cell (x20.add 2)) fun x21_2 =>
 oI .i64 (h_6.cell (x20.add 3)) fun x21_3 =>
 oI .i64 (h_6.cell (x20.add 4)) fun x21_4 =>
 oI .i64 (h_6.cell (x20.add 5)) fun x21_5 =>
 oI .i64 (h_6.cell (x20.add 6)) fun x21_6 =>
 xNew h_6 (.cells #[(.int .i64 0), (.int .i64 0), (.int .i64 0), (.int .i64 0), (.int .i64 0), (.int .i64 0), (.int .i64 0)] 61 (0, 0)) fun b8 h_7 =>
 xSt 7 h_7 (⟨b8, 0, none⟩ : Addr) [(.int .i64 x21_0), (.int .i64 x21_1), (.int .i64 x21_2), (.int .i64 x21_3), (.int .i64 x21_4), (.int .i64 x21_5), (.int .i64 x21_6)] fun h_8 =>
 oI .i64 (h_8.cell ((⟨b8, 0, none⟩ : Addr).add 6)) fun x23 =>
 oI .i64 (h_8.cell ((⟨b5, 0, none⟩ : Addr).add 5)) fun x25 =>
 xIte (decide ((x23 : Int) < x25)) (fun J_9 =>
 xShl .u64 1 x17 fun x29 =>
 J_9 (IntKind.wrap .u64 (BitVec.ofInt (IntKind.bits .u64) x6 ||| BitVec.ofInt (IntKind.bits .u64) x29).toNat) h_8)
 (fun J_9 =>
 J_9 x6 h_8)
 (fun (x6_1 : Int) (h_9 : PH) =>
 J_8 x6_1 h_9))
 (fun (x6_2 : Int) (h_10 : PH) =>
 J_6 x6_2 (IntKind.wrap .i64 (x17 + 1)) h_10)))) n_1 0 0 h_4)
 (fun (x6_3 : Int) (h_11 : PH) =>
 xNew h_11 (.cells #[(.int .u64 x6_3)] 167 (0, 0)) fun b34 h_12 =>
 xApp h_12 167 1 8 x3a x3l x3c (.slice (some (⟨b34, 0, none⟩ : Addr)) 1 1) fun x35a x35l x35c h_13 =>
 J_4 x35a x35l x35c h_13))
 (fun (x3a_1 : Option Addr) (x3l_1 : Nat) (x3c_1 : Nat) (h_14 : PH) =>
 J_2 x3a_1 x3l_1 x3c_1 (IntKind.wrap .i64 (x11 + 1)) h_14)))) n none 0 0 0 h)
 (fun (x3a_2 : Option Addr) (x3l_2 : Nat) (x3c_2 : Nat) (h_15 : PH) =>
 Q (.slice x3a_2 x3l_2 x3c_2) h_15)
theorem P_check_ahead_eq (a0a : Option Addr) (a0l : Nat) (a0c : Nat) (h : PH) (Q : Value → PH → Prop) : dFn Try.prog Try.f88 A_check_ahead #[(.slice a0a a0l a0c)] h Q = P_check_ahead a0a a0l a0c h Q := by kernel_rfl
theorem P_check_ahead_of {a0a : Option Addr} {a0l : Nat} {a0c : Nat} {h : PH} {Q : Value → PH → Prop} (x : P_check_ahead a0a a0l a0c h Q) : Meets Try.prog 88 #[(.slice a0a a0l a0c)] h Q :=
  spec_of Try.func88 mix (by kernel_rfl) ((P_check_ahead_eq a0a a0l a0c h Q).symm ▸ x)
/-- (*futtock/check.search).rest -/
def A_check_search_rest : Ann := .seq (.leaf) (.seq (.seq (.leaf) (.cond [] (.seq (.leaf) (.leaf)) (.leaf))) (.seq (.seq (.leaf) (.cond [] (.seq (.leaf) (.leaf)) (.leaf))) (.seq (.seq (.leaf) (.block [] (.loop [(31, (.int .i64))] (.seq (.leaf) (.seq (.cond [] (.leaf) (.leaf)) (.seq (.block [] (.seq (.leaf) (.seq (.seq (.leaf) (.cond [] (.leaf) (.leaf))) (.seq (.leaf) (.seq (.seq (.leaf) (.cond [] (.leaf) (.leaf))) (.seq (.leaf) (.seq (.leaf) (.cond [] (.seq (.leaf) (.leaf)) (.leaf))))))))) (.leaf))))))) (.seq (.draw [(0, .flt), (1, .flt), (2, .flt), (3, .flt), (4, .flt), (5, .flt), (6, .flt), (7, .flt), (8, .flt), (9, .flt), (10, .flt), (11, .flt), (12, .eff), (13, .eff), (14, .brk)]) (.seq (.leaf) (.leaf))))))
def P_check_search_rest (a0 : Option Addr) (a1 : Int) (a2 : Option Addr) (h : PH) (Q : Value → PH → Prop) : Prop :=
 xNn a0 fun x15 =>
 oS (h.cell (x15.add 0)) fun x17a x17l x17c =>
 xShl .u64 1 ((x17l : Nat) : Int) fun x19 =>
 xIte (a1 == (IntKind.wrap .u64 (x19 - 1))) (fun J_1 =>
 Q (.tuple #[(.slice none 0 0), (.bool true)]) h)
 (fun J_1 =>
 J_1 h)
 (fun  (h_1 : PH) =>
 Meets Try.prog 109 #[(.pointer a0), (.int .u64 a1), (.pointer a2)] h_1 fun v25 h_2 =>
 oB (some v25) fun x25 =>
 xIte x25 (fun J_2 =>
 Q (.tuple #[(.slice none 0 0), (.bool false)]) h_2)
 (fun J_2 =>
 J_2 h_2)
 (fun  (h_3 : PH) =>
 xNn a0 fun x27 =>
 oS (h_3.cell (x27.add 0)) fun x29a x29l x29c =>
 xBlk (fun J_3 =>
 ∃ n, xLoopN (fun _ _ => False) (fun J_4 =>
 (fun (x31 : Int) (h_4 : PH) =>
 xIte (decide ((x31 : Int) < ((x29l : Nat) : Int))) (fun J_5 =>
 J_5 h_4)
 (fun J_5 =>
 J_3 h_4)
 (fun  (h_5 : PH) =>
 xBlk (fun J_6 =>
 xIdx x29a x29l x31 7 fun x34 =>
 oI .i64 (h_5.cell (x34.add 0)) fun x35_0 =>
 oI .i64 (h_5.cell (x34.add 1)) fun x35_1 =>
 oI .i64 (h_5.cell (x34.add 2)) fun x35_2 =>
 oI .i64 (h_5.cell (x34.add 3)) fun x35_3 =>
 oI .i64 (h_5.cell (x34.add 4)) fun x35_4 =>
 oI .i64 (h_5.cell (x34.add 5)) fun x35_5 =>
 oI .i64 (h_5.cell (x34.add 6)) fun x35_6 =>
 xNew h_5 (.cells #[(.int .i64 0), (.int .i64 0), (.int .i64 0), (.int .i64 0), (.int .i64 0), (.int .i64 0), (.int .i64 0)] 61 (0, 0)) fun b9 h_6 =>
 xSt 7 h_6 (⟨b9, 0, none⟩ : Addr) [(.int .i64 x35_0), (.int .i64 x35_1), (.int .i64 x35_2), (.int .i64 x35_3), (.int .i64 x35_4), (.int .i64 x35_5), (.int .i64 x35_6)] fun h_7 =>
 xShr .u64 a1 x31 fun x38 =>
 xSc ((IntKind.wrap .u64 (BitVec.ofInt (IntKind.bits .u64) x38 &&& BitVec.ofInt (IntKind.bits .u64) 1).toNat) == 1) false (fun J_7 =>
 xNn a0 fun x43 =>
 oS (h_7.cell (x43.add 1)) fun x45a x45l x45c =>
 xIdx x45a x45l x31 1 fun x47 =>
 oI .u64 (h_7.cell x47) fun x48 =>
 J_7 ((IntKind.wrap .u64 (BitVec.ofInt (IntKind.bits .u64) x48 &&& ~~~(BitVec.ofInt (IntKind.bits .u64) a1)).toNat) != 0) h_7)
 (fun r52 h_8 =>
 xIte r52 (fun J_8 =>
 J_6 h_8)
 (fun J_8 =>
 J_8 h_8)
 (fun  (h_9 : PH) =>
 Meets Try.prog 13 #[(.pointer a2)] h_9 fun v54 h_10 =>
 oP (some v54) fun x54 =>
 oI .i64 (h_10.cell (((⟨b9, 0, none⟩ : Addr).add 0).add 0)) fun x57_0 =>
 oI .i64 (h_10.cell (((⟨b9, 0, none⟩ : Addr).add 0).add 1)) fun x57_1 =>
 oI .i64 (h_10.cell (((⟨b9, 0, none⟩ : Addr).add 0).add 2)) fun x57_2 =>
 oI .i64 (h_10.cell (((⟨b9, 0, none⟩ : Addr).add 0).add 3)) fun x57_3 =>
 oI .i64 (h_10.cell (((⟨b9, 0, none⟩ : Addr).add 0).add 4)) fun x57_4 =>
 Meets Try.prog 14 #[(.pointer x54), (.agg #[(.int .i64 x57_0), (.int .i64 x57_1), (.int .i64 x57_2), (.int .i64 x57_3), (.int .i64 x57_4)])] h_10 fun v58 h_11 =>
 oI .i64 (some v58) fun x58 =>
 xIte (x58 != 0) (fun J_9 =>
 J_6 h_11)
 (fun J_9 =>
 J_9 h_11)
 (fun  (h_12 : PH) =>
 xShl .u64 1 x31 fun x64 =>
 Meets Try.prog 89 #[(.pointer a0), (.int .u64 (IntKind.wrap .u64 (BitVec.ofInt (IntKind.bits .u64) a1 ||| BitVec.ofInt (IntKind.bits .u64) x64).toNat)), (.pointer x54)] h_12 fun v67 h_13 =>
 oTup v67 2 fun x67cs =>
 oIx x67cs[0]? fun x67w =>
 oS (some x67w) fun x67_0a x67_0l x67_0c =>
 oIx x67cs[1]? fun x67w_1 =>
 oB (some x67w_1) fun x67_1 =>
 oS (some (.slice x67_0a x67_0l x67_0c)) fun x68a x68l x68c =>
 oB (some (.bool x67_1)) fun x69 =>
 xIte x69 (fun J_10 =>
 xNew h_13 (.cells #[(.int .i64 x31)] 3 (0, 0)) fun b72 h_14 =>
 xApp h_14 3 1 8 (some (⟨b72, 0, none⟩ : Addr)) 1 1 (.slice x68a x68l x68c) fun x74a x74l x74c h_15 =>
 Q (.tuple #[(.slice x74a x74l x74c), (.bool true)]) h_15)
 (fun J_10 =>
 J_10 h_13)
 (fun  (h_16 : PH) =>
 J_6 h_16)))) h_7)
 (fun  (h_17 : PH) =>
 J_4 (IntKind.wrap .i64 (x31 + 1)) h_17)))) n 0 h_3)
 (fun  (h_18 : PH) =>
 xDraw h_18 fun hs_1 =>
 xNn a0 fun x77 =>
 oM (hs_1.cell (x77.add 2)) fun x79 =>
 xNn a0 fun x82 =>
 oM (hs_1.cell (x82.add 2)) fun x84 =>
 xLook Try.prog 167 hs_1 x84 (.int .u64 a1) fun x86o =>
 oS (some (Option.getD x86o (.slice none 0 0))) fun x86a x86l x86c =>
 xNew h_18 (.cells #[(.pointer a2)] 23 (0, 0)) fun b88 h_19 =>
 PH.le hs_1 h_19 ∧
 xApp h_19 23 1 8 x86a x86l x86c (.slice (some (⟨b88, 0, none⟩ : Addr)) 1 1) fun x89a x89l x89c h_20 =>
 PH.le hs_1 h_20 ∧
 xPut Try.prog 167 h_20 x79 (.int .u64 a1) (.slice x89a x89l x89c) fun h_21 =>
 Q (.tuple #[(.slice none 0 0), (.bool false)]) h_21)))
theorem P_check_search_rest_eq (a0 : Option Addr) (a1 : Int) (a2 : Option Addr) (h : PH) (Q : Value → PH → Prop) : dFn Try.prog Try.f89 A_check_search_rest #[(.pointer a0), (.int .u64 a1), (.pointer a2)] h Q = P_check_search_rest a0 a1 a2 h Q := by kernel_rfl
theorem P_check_search_rest_of {a0 : Option Addr} {a1 : Int} {a2 : Option Addr} {h : PH} {Q : Value → PH → Prop} (x : P_check_search_rest a0 a1 a2 h Q) : Meets Try.prog 89 #[(.pointer a0), (.int .u64 a1), (.pointer a2)] h Q :=
  spec_of Try.func89 mix (by kernel_rfl) ((P_check_search_rest_eq a0 a1 a2 h Q).symm ▸ x)
/-- (*futtock/check.search).isDead -/
def A_check_search_isDead : Ann := .seq (.leaf) (.seq (.seq (.leaf) (.block [] (.loop [(16, (.int .i64))] (.seq (.leaf) (.seq (.cond [] (.leaf) (.leaf)) (.seq (.block [] (.seq (.leaf) (.seq (.leaf) (.cond [] (.seq (.leaf) (.leaf)) (.leaf))))) (.leaf))))))) (.seq (.leaf) (.leaf)))
def P_check_search_isDead (a0 : Option Addr) (a1 : Int) (a2 : Option Addr) (h : PH) (Q : Value → PH → Prop) : Prop :=
 xNn a0 fun x10 =>
 oM (h.cell (x10.add 2)) fun x12 =>
 xLook Try.prog 167 h x12 (.int .u64 a1) fun x14o =>
 oS (some (Option.getD x14o (.slice none 0 0))) fun x14a x14l x14c =>
 xBlk (fun J_1 =>
 ∃ n, xLoopN (fun _ _ => False) (fun J_2 =>
 (fun (x16 : Int) (h_1 : PH) =>
 xIte (decide ((x16 : Int) < ((x14l : Nat) : Int))) (fun J_3 =>
 J_3 h_1)
 (fun J_3 =>
 J_1 h_1)
 (fun  (h_2 : PH) =>
 xBlk (fun J_4 =>
 xIdx x14a x14l x16 1 fun x18 =>
 oP (h_2.cell x18) fun x19 =>
 Meets Try.prog 16 #[(.pointer x19), (.pointer a2)] h_2 fun v22 h_3 =>
 oB (some v22) fun x22 =>
 xIte x22 (fun J_5 =>
 Q (.bool true) h_3)
 (fun J_5 =>
 J_5 h_3)
 (fun  (h_4 : PH) =>
 J_4 h_4))
 (fun  (h_5 : PH) =>
 J_2 (IntKind.wrap .i64 (x16 + 1)) h_5)))) n 0 h)
 (fun  (h_6 : PH) =>
 Q (.bool false) h_6)
theorem P_check_search_isDead_eq (a0 : Option Addr) (a1 : Int) (a2 : Option Addr) (h : PH) (Q : Value → PH → Prop) : dFn Try.prog Try.f109 A_check_search_isDead #[(.pointer a0), (.int .u64 a1), (.pointer a2)] h Q = P_check_search_isDead a0 a1 a2 h Q := by kernel_rfl
theorem P_check_search_isDead_of {a0 : Option Addr} {a1 : Int} {a2 : Option Addr} {h : PH} {Q : Value → PH → Prop} (x : P_check_search_isDead a0 a1 a2 h Q) : Meets Try.prog 109 #[(.pointer a0), (.int .u64 a1), (.pointer a2)] h Q :=
  spec_of Try.func109 mix (by kernel_rfl) ((P_check_search_isDead_eq a0 a1 a2 h Q).symm ▸ x)
/-- futtock/futtocklaw23.CheckEarlier -/
def A_law23_CheckEarlier : Ann := .seq (.leaf) (.seq (.seq (.leaf) (.cond [] (.seq (.leaf) (.leaf)) (.leaf))) (.seq (.leaf) (.seq (.leaf) (.seq (.seq (.leaf) (.cond [] (.seq (.leaf) (.leaf)) (.leaf))) (.seq (.leaf) (.seq (.leaf) (.seq (.seq (.leaf) (.block [] (.loop [(6, .slice), (40, (.int .i64))] (.seq (.leaf) (.seq (.cond [] (.leaf) (.leaf)) (.seq (.block [(6, .slice)] (.seq (.leaf) (.seq (.seq (.leaf) (.cond [] (.seq (.leaf) (.leaf)) (.leaf))) (.seq (.seq (.leaf) (.block [] (.loop [(59, (.int .i64))] (.seq (.leaf) (.seq (.cond [] (.leaf) (.leaf)) (.seq (.block [] (.seq (.leaf) (.seq (.draw [(0, .flt), (1, .flt), (2, .flt), (3, .flt), (4, .flt), (5, .flt), (6, .flt), (7, .flt), (8, .flt), (9, .flt), (10, .flt), (11, .flt), (12, .flt), (13, .flt), (14, .flt), (15, .flt), (16, .flt), (17, .flt), (18, .flt)]) (.cond [] (.seq (.leaf) (.leaf)) (.leaf))))) (.leaf))))))) (.seq (.leaf) (.seq (.leaf) (.seq (.seq (.leaf) (.seq (.leaf) (.cond [] (.seq (.leaf) (.leaf)) (.leaf)))) (.seq (.leaf) (.seq (.leaf) (.cond [] (.seq (.leaf) (.leaf)) (.leaf))))))))))) (.leaf))))))) (.seq (.leaf) (.leaf)))))))))
def P_law23_CheckEarlier (a0a : Option Addr) (a0l : Nat) (a0c : Nat) (h : PH) (Q : Value → PH → Prop) : Prop :=
 xIte (decide ((((a0l : Nat) : Int) : Int) > 8)) (fun J_1 =>
 Meets Try.prog 24 #[] h fun v19 h_1 =>
 oB (some v19) fun x19 =>
 Q (.bool x19) h_1)
 (fun J_1 =>
 J_1 h)
 (fun  (h_2 : PH) =>
 Meets Try.prog 26 #[(.slice a0a a0l a0c)] h_2 fun v21 h_3 =>
 oS (some v21) fun x21a x21l x21c =>
 Meets Try.prog 27 #[(.int .i64 3), (.int .i64 2), (.int .i64 3), (.slice x21a x21l x21c)] h_3 fun v24 h_4 =>
 oTup v24 2 fun x24cs =>
 oIx x24cs[0]? fun x24w =>
 oS (some x24w) fun x24_0a x24_0l x24_0c =>
 oIx x24cs[1]? fun x24w_1 =>
 oI .i64 (some x24w_1) fun x24_1 =>
 oS (some (.slice x24_0a x24_0l x24_0c)) fun x25a x25l x25c =>
 oI .i64 (some (.int .i64 x24_1)) fun x26 =>
 xSc (x26 != 0) false (fun J_2 =>
 J_2 (((x25l : Nat) : Int) != ((x21l : Nat) : Int)) h_4)
 (fun r35 h_5 =>
 xIte r35 (fun J_3 =>
 Meets Try.prog 24 #[] h_5 fun v36 h_6 =>
 oB (some v36) fun x36 =>
 Q (.bool x36) h_6)
 (fun J_3 =>
 J_3 h_5)
 (fun  (h_7 : PH) =>
 xNew h_7 (.map #[] 0) fun b37 h_8 =>
 xBlk (fun J_4 =>
 ∃ n, xLoopN (fun _ _ _ _ _ => False) (fun J_5 =>
 (fun (x6a : Option Addr) (x6l : Nat) (x6c : Nat) (x40 : Int) (h_9 : PH) =>
 xIte (decide ((x40 : Int) < ((x25l : Nat) : Int))) (fun J_6 =>
 J_6 h_9)
 (fun J_6 =>
 J_4 h_9)
 (fun  (h_10 : PH) =>
 xBlk (fun J_7 =>
 xIdx x25a x25l x40 1 fun x42 =>
 oI .i64 (h_10.cell x42) fun x43 =>
 xSc (decide ((x43 : Int) < 0)) false (fun J_8 =>
 J_8 (decide ((x43 : Int) ≥ ((x21l : Nat) : Int))) h_10)
 (fun r51 h_11 =>
 xSc r51 false (fun J_9 =>
 xLook Try.prog 3 h_11 (some b37) (.int .i64 x43) fun x55o =>
 oB (some (Option.getD x55o (.bool false))) fun x55 =>
 J_9 x55 h_11)
 (fun r56 h_12 =>
 xIte r56 (fun J_10 =>
 Q (.bool false) h_12)
 (fun J_10 =>
 J_10 h_12)
 (fun  (h_13 : PH) =>
 xBlk (fun J_11 =>
 ∃ n_1, xLoopN (fun _ _ => False) (fun J_12 =>
 (fun (x59 : Int) (h_14 : PH) =>
 xIte (decide ((x59 : Int) < ((x21l : Nat) : Int))) (fun J_13 =>
 J_13 h_14)
 (fun J_13 =>
 J_11 h_14)
 (fun  (h_15 : PH) =>
 xBlk (fun J_14 =>
 xIdx x21a x21l x59 7 fun x62 =>
 oI .i64 (h_15.cell (x62.add 0)) fun x63_0 =>
 oI .i64 (h_15.cell (x62.add 1)) fun x63_1 =>
 oI .i64 (h_15.cell (x62.add 2)) fun x63_2 =>
 oI .i64 (h_15.cell (x62.add 3)) fun x63_3 =>
 oI .i64 (h_15.cell (x62.add 4)) fun x63_4 =>
 oI .i64 (h_15.cell (x62.add 5)) fun x63_5 =>
 oI .i64 (h_15.cell (x62.add 6)) fun x63_6 =>
 xNew h_15 (.cells #[(.int .i64 0), (.int .i64 0), (.int .i64 0), (.int .i64 0), (.int .i64 0), (.int .i64 0), (.int .i64 0)] 61 (0, 0)) fun b11 h_16 =>
 xSt 7 h_16 (⟨b11, 0, none⟩ : Addr) [(.int .i64 x63_0), (.int .i64 x63_1), (.int .i64 x63_2), (.int .i64 x63_3), (.int .i64 x63_4), (.int .i64 x63_5), (.int .i64 x63_6)] fun h_17 =>
 xDraw h_17 fun hs_1 =>
 xLook Try.prog 3 hs_1 (some b37) (.int .i64 x59) fun x66o =>
 oB (some (Option.getD x66o (.bool false))) fun x66 =>
 xSc (!x66) true (fun J_15 =>
 J_15 (x59 != x43) h_17)
 (fun r72 h_18 =>
 xSc r72 true (fun J_16 =>
 oI .i64 (hs_1.cell ((⟨b11, 0, none⟩ : Addr).add 6)) fun x75 =>
 xIdx x21a x21l x43 7 fun x78 =>
 oI .i64 (hs_1.cell (x78.add 5)) fun x80 =>
 J_16 (decide ((x75 : Int) < x80)) h_18)
 (fun r82 h_19 =>
 xIte r82 (fun J_17 =>
 Q (.bool false) h_19)
 (fun J_17 =>
 J_17 h_19)
 (fun  (h_20 : PH) =>
 J_14 h_20)) h_18) h_17)
 (fun  (h_21 : PH) =>
 J_12 (IntKind.wrap .i64 (x59 + 1)) h_21)))) n_1 0 h_13)
 (fun  (h_22 : PH) =>
 xPut Try.prog 3 h_22 (some b37) (.int .i64 x43) (.bool true) fun h_23 =>
 xIdx x21a x21l x43 7 fun x89 =>
 oI .i64 (h_23.cell (x89.add 0)) fun x90_0 =>
 oI .i64 (h_23.cell (x89.add 1)) fun x90_1 =>
 oI .i64 (h_23.cell (x89.add 2)) fun x90_2 =>
 oI .i64 (h_23.cell (x89.add 3)) fun x90_3 =>
 oI .i64 (h_23.cell (x89.add 4)) fun x90_4 =>
 oI .i64 (h_23.cell (x89.add 5)) fun x90_5 =>
 oI .i64 (h_23.cell (x89.add 6)) fun x90_6 =>
 xNew h_23 (.cells #[(.int .i64 x90_0), (.int .i64 x90_1), (.int .i64 x90_2), (.int .i64 x90_3), (.int .i64 x90_4), (.int .i64 x90_5), (.int .i64 x90_6)] 61 (0, 0)) fun b91 h_24 =>
 xApp h_24 61 7 56 x6a x6l x6c (.slice (some (⟨b91, 0, none⟩ : Addr)) 1 1) fun x92a x92l x92c h_25 =>
 Meets Try.prog 31 #[(.int .i64 3), (.int .i64 2), (.int .i64 3), (.slice x92a x92l x92c)] h_25 fun v95 h_26 =>
 oTup v95 2 fun x95cs =>
 oIx x95cs[0]? fun x95w =>
 oI .i64 (some x95w) fun x95_0 =>
 oIx x95cs[1]? fun x95w_1 =>
 oB (some x95w_1) fun x95_1 =>
 oI .i64 (some (.int .i64 x95_0)) fun x96 =>
 oB (some (.bool x95_1)) fun x97 =>
 xSc (!x97) false (fun J_18 =>
 J_18 (x96 != ((x92l : Nat) : Int)) h_26)
 (fun r105 h_27 =>
 xIte r105 (fun J_19 =>
 Q (.bool false) h_27)
 (fun J_19 =>
 J_19 h_27)
 (fun  (h_28 : PH) =>
 Meets Try.prog 25 #[(.int .i64 3), (.int .i64 2), (.int .i64 3), (.slice x92a x92l x92c)] h_28 fun v108 h_29 =>
 oTup v108 2 fun x108cs =>
 oIx x108cs[0]? fun x108w =>
 oB (some x108w) fun x108_0 =>
 oIx x108cs[1]? fun x108w_1 =>
 oI .i64 (some x108w_1) fun x108_1 =>
 oB (some (.bool x108_0)) fun x109 =>
 oI .i64 (some (.int .i64 x108_1)) fun x110 =>
 xSc (!x109) false (fun J_20 =>
 J_20 (x110 != 0) h_29)
 (fun r116 h_30 =>
 xIte r116 (fun J_21 =>
 Q (.bool false) h_30)
 (fun J_21 =>
 J_21 h_30)
 (fun  (h_31 : PH) =>
 J_7 x92a x92l x92c h_31)) h_29)) h_26))) h_11) h_10)
 (fun (x6a_1 : Option Addr) (x6l_1 : Nat) (x6c_1 : Nat) (h_32 : PH) =>
 J_5 x6a_1 x6l_1 x6c_1 (IntKind.wrap .i64 (x40 + 1)) h_32)))) n none 0 0 0 h_8)
 (fun  (h_33 : PH) =>
 Meets Try.prog 24 #[] h_33 fun v118 h_34 =>
 oB (some v118) fun x118 =>
 Q (.bool x118) h_34))) h_4)
theorem P_law23_CheckEarlier_eq (a0a : Option Addr) (a0l : Nat) (a0c : Nat) (h : PH) (Q : Value → PH → Prop) : dFn Try.prog Try.f7 A_law23_CheckEarlier #[(.slice a0a a0l a0c)] h Q = P_law23_CheckEarlier a0a a0l a0c h Q := by kernel_rfl
theorem P_law23_CheckEarlier_of {a0a : Option Addr} {a0l : Nat} {a0c : Nat} {h : PH} {Q : Value → PH → Prop} (x : P_law23_CheckEarlier a0a a0l a0c h Q) : Meets Try.prog 7 #[(.slice a0a a0l a0c)] h Q :=
  spec_of Try.func7 mix (by kernel_rfl) ((P_law23_CheckEarlier_eq a0a a0l a0c h Q).symm ▸ x)
end Go.Proofs.Ytnnedfhpicdacaa

/-
  Calls in memory; whether a call may be; how many calls the model takes as they stand.
-/
set_option linter.unusedSimpArgs false
set_option linter.unusedVariables false
namespace Go.Ck
open Go Go.Sx Go.Md Go.Proofs Go.Proofs.Ytnnedfhpicdacaa

def clL (c : Cl) : List Value := [.int .i64 c.event.kind, .int .i64 c.event.thread, .int .i64 c.event.obj, .int .i64 c.event.arg, .int .i64 c.event.err, .int .i64 c.fr, .int .i64 c.to]
theorem clL_len (c : Cl) : (clL c).length = 7 := rfl
theorem clL_one (c : Cl) : ∀ v ∈ clL c, oneCell v = true := by simp [clL, oneCell]
abbrev ClsAt := RecsAt clL 7
theorem cls_at {h : PH} {a : Option Addr} {l : List Cl} (x : ClsAt h a l) {i : Nat} {c : Cl} (hi : l[i]? = some c) : ∃ b, a = some b ∧ h.cell ((b.add (i * 7)).add 0) = some (.int .i64 c.event.kind) ∧ h.cell ((b.add (i * 7)).add 1) = some (.int .i64 c.event.thread) ∧ h.cell ((b.add (i * 7)).add 2) = some (.int .i64 c.event.obj) ∧
    h.cell ((b.add (i * 7)).add 3) = some (.int .i64 c.event.arg) ∧ h.cell ((b.add (i * 7)).add 4) = some (.int .i64 c.event.err) ∧ h.cell ((b.add (i * 7)).add 5) = some (.int .i64 c.fr) ∧ h.cell ((b.add (i * 7)).add 6) = some (.int .i64 c.to) := by
  obtain ⟨b, hb, hc⟩ := x.at_ i c hi
  exact ⟨b, hb, hc 0 _ rfl, hc 1 _ rfl, hc 2 _ rfl, hc 3 _ rfl, hc 4 _ rfl, hc 5 _ rfl, hc 6 _ rfl⟩
def clV (c : Cl) : Value := .agg (clL c).toArray

theorem meets_cMay {h : PH} (c : Cl) : Meets Try.prog 29 #[clV c] h fun v h' => v = .bool c.may ∧ h' = h := by
  apply Meets.same
  apply P_check_May_of
  unfold P_check_May
  refine xNew_intro fun b h1 l nb eb => ?_
  simp only [xNn_some, add_mk, cell_mk, upd_at, del_at, if_true, if_false, Option.bind_some, List.getElem?_toArray, List.getElem?_cons_succ, List.getElem?_cons_zero, oI_some, oS_some, oM_some, oB_some, oP_some, oT_some, xIdx_some, Nat.zero_add, Nat.add_zero, Nat.mul_one, eb, xBlk]
  refine ⟨fun hx => ?_, fun hx => ?_⟩
  · exact ⟨by unfold Cl.may; rw [if_pos hx], l⟩
  have hx' : ¬decide (c.fr ≥ c.to) = true := by rw [hx]; simp
  simp only [xNn_some, add_mk, cell_mk, upd_at, del_at, if_true, if_false, Option.bind_some, List.getElem?_toArray, List.getElem?_cons_succ, List.getElem?_cons_zero, oI_some, oS_some, oM_some, oB_some, oP_some, oT_some, xIdx_some, Nat.zero_add, Nat.add_zero, Nat.mul_one, eb]
  have six : ∀ K : Bool → PH → Prop, K (c.event.kind == 1 || (c.event.kind == 2 || (c.event.kind == 3 || (c.event.kind == 9 || (c.event.kind == 11 || c.event.kind == 12))))) h1 →
      xIte (c.event.kind == 1) (fun J => J (c.event.kind == 1) h1) (fun J => xIte (c.event.kind == 2) (fun J => J (c.event.kind == 2) h1) (fun J => xIte (c.event.kind == 3) (fun J => J (c.event.kind == 3) h1) (fun J => xIte (c.event.kind == 9) (fun J => J (c.event.kind == 9) h1) (fun J => xIte (c.event.kind == 11) (fun J => J (c.event.kind == 11) h1) (fun J => J (c.event.kind == 12) h1) (fun x h' => J x h')) (fun x h' => J x h')) (fun x h' => J x h')) (fun x h' => J x h')) K := by
    intro K hK
    cases e1 : (c.event.kind == 1) <;> cases e2 : (c.event.kind == 2) <;> cases e3 : (c.event.kind == 3) <;> cases e4 : (c.event.kind == 9) <;> cases e5 : (c.event.kind == 11) <;> simp only [e1, e2, e3, e4, e5, Bool.true_or, Bool.false_or] at hK <;> simp [xIte, hK]
  refine six _ ⟨fun hk => ?_, fun hk => ?_⟩
  · refine ⟨?_, l⟩
    unfold Cl.may
    rw [if_neg hx', if_pos (by simp at hk; omega)]
  have nk : ¬(c.event.kind = 1 ∨ c.event.kind = 2 ∨ c.event.kind = 3 ∨ c.event.kind = 9 ∨ c.event.kind = 11 ∨ c.event.kind = 12) := by
    simp at hk; omega
  refine ⟨fun h8 => ?_, fun h8 => ?_⟩
  · have h8 := beq_iff_eq.1 h8
    simp only [xNn_some, add_mk, cell_mk, upd_at, del_at, if_true, if_false, Option.bind_some, List.getElem?_toArray, List.getElem?_cons_succ, List.getElem?_cons_zero, oI_some, oS_some, oM_some, oB_some, oP_some, oT_some, xIdx_some, Nat.zero_add, Nat.add_zero, Nat.mul_one, eb]
    exact ⟨by unfold Cl.may; rw [if_neg hx', if_neg nk, if_pos h8], l⟩
  have n8 : c.event.kind ≠ 8 := by simpa using h8
  refine ⟨fun h10 => ?_, fun h10 => ?_⟩
  · have h10 := beq_iff_eq.1 h10
    simp only [xNn_some, add_mk, cell_mk, upd_at, del_at, if_true, if_false, Option.bind_some, List.getElem?_toArray, List.getElem?_cons_succ, List.getElem?_cons_zero, oI_some, oS_some, oM_some, oB_some, oP_some, oT_some, xIdx_some, Nat.zero_add, Nat.add_zero, Nat.mul_one, eb]
    exact ⟨by unfold Cl.may; rw [if_neg hx', if_neg nk, if_neg n8, if_pos h10], l⟩
  have n10 : c.event.kind ≠ 10 := by simpa using h10
  exact ⟨by unfold Cl.may; rw [if_neg hx', if_neg nk, if_neg n8, if_neg n10], l⟩

end Go.Ck

/-
  The walk of ModelErrors.
-/
set_option linter.unusedSimpArgs false
set_option linter.unusedVariables false
namespace Go.Md
open Go Go.Sx Go.Proofs Go.Proofs.Ytnnedfhpicdacaa

theorem MOwn.le {h0 h h' : PH} {p : Value} {s : Ms} (o : MOwn h0 h p s) (l : h.le h') : MOwn h0 h' p s := by
  obtain ⟨L, e, r, l', n⟩ := o
  exact ⟨L, e, r.le l, PH.le_trans l' l, n⟩
theorem flag_setFlag {s : Ms} {t : Int} (h : s.isThread t = true) : (s.setFlag t false).isThread t = true ∧ (s.setFlag t false).flag t = false := by
  simp only [Ms.isThread, Bool.and_eq_true, decide_eq_true_eq] at h
  have hl : t.toNat < s.flags.length := by omega
  refine ⟨by simp [Ms.isThread, Ms.setFlag]; omega, ?_⟩
  simp [Ms.flag, Ms.setFlag, List.getD_eq_getElem?_getD, hl]
theorem at_setFlag (s : Ms) (t o : Int) (b : Bool) : (s.setFlag t b).at o = s.at o := rfl

set_option maxHeartbeats 1000000 in
theorem meets_ModelErrors {h : PH} {a : Option Addr} {l c : Nat} {evs : List Ev} (hc : l ≤ c) (hl : evs.length = l) (x : EvsAt h a evs) :
    Meets Try.prog 3 #[.slice a l c] h fun v h' => v = .bool true ∧ h' = h := by
  apply Meets.same
  apply P_law14_ModelErrors_of
  unfold P_law14_ModelErrors
  refine (meets_New 4 3 3 (by decide)).mono ?_
  rintro _ h1 ⟨w, rfl, f⟩
  have o := MOwn.of_fresh (PH.le_refl h) f
  obtain ⟨p, rfl⟩ := o.ptr
  clear f
  have k0 := new_ok 4 3 3 (by decide) (by decide)
  simp only [oTup_mk, oIx_some, oP_some, oI_some, List.getElem?_toArray, List.getElem?_cons_zero, List.getElem?_cons_succ]
  refine ⟨rfl, xSc_or false (fun _ J hJ => hJ) ⟨fun hx => (by cases hx), fun _ => ?_⟩⟩
  refine (meets_short14 hc).mono ?_
  rintro _ _ ⟨⟨c', rfl⟩, rfl⟩
  simp only [oS_some]
  have x2 := x.take (min l 200)
  have hl2 : (evs.take (min l 200)).length = min l 200 := by rw [List.length_take]; omega
  have hmax : min l 200 ≤ 200 := by omega
  generalize evs.take (min l 200) = es at x2 hl2
  generalize min l 200 = n at hl2 hmax ⊢
  refine xBlk_split (fun h' => ∃ s : Ms, s.Ok ∧ MOwn h h' (.pointer (some p)) s) ?_ fun K hK => ?_
  · rintro h2 ⟨s, _, o⟩
    refine meets_alive14.look ?_
    simp only [oB_some]
    exact ⟨by trivial, o.base⟩
  refine xLoop1 (fun (i : Int) h' => 0 ≤ i ∧ i ≤ n ∧ ∃ s : Ms, s.Ok ∧ MOwn h h' (.pointer (some p)) s) (fun (i : Int) _ => ((n : Int) - i).toNat) ?_ ⟨by omega, by omega, _, k0, o⟩
  rintro J i h2 ⟨i0, i1, s, ks, o⟩ hJ
  refine ⟨fun hx => ?_, fun hx => hK _ ⟨s, ks, o⟩⟩
  have hx := of_decide_eq_true hx
  have hw : IntKind.wrap .i64 (i + 1) = i + 1 := wrap64_id (by omega) (by omega)
  have hmu : ((n : Int) - (i + 1)).toNat < ((n : Int) - i).toNat := by omega
  have j0 : 0 ≤ i + 1 := by omega
  have j1 : i + 1 ≤ n := by omega
  have hi : i.toNat < es.length := by omega
  have step : ∀ h' s', s'.Ok → MOwn h h' (.pointer (some p)) s' → J (i + 1) h' := fun h' s' k' o' => hJ _ _ ⟨j0, j1, s', k', o'⟩ hmu
  clear hJ hmu j0 j1 hK
  obtain ⟨b, rfl, c0, c1, c2, c3, c4⟩ := (x2.le o.base).at_ i.toNat es[i.toNat] (List.getElem?_eq_getElem hi)
  generalize es[i.toNat] = e at c0 c1 c2 c3 c4
  refine xBlk_split (fun h' => ∃ s' : Ms, s'.Ok ∧ MOwn h h' (.pointer (some p)) s') (fun h' ⟨s', k', o'⟩ => by rw [hw]; exact step h' s' k' o') fun K hK => ?_
  clear step
  refine ⟨b, rfl, i0, hx, ?_⟩
  simp only [c0, c1, c2, c3, c4, oI_some]
  intro b6 n6
  refine xSt_mk (PH.upd_same _ _ _) rfl (by decide) (by simp [oneCell]) (by simp) ?_
  rw [PH.upd_upd, setN5]
  have l3 := PH.le_upd (O := .cells #[.int .i64 e.kind, .int .i64 e.thread, .int .i64 e.obj, .int .i64 e.arg, .int .i64 e.err] 29 (0, 0)) n6
  have e3 := PH.upd_same h2 b6 (.cells #[.int .i64 e.kind, .int .i64 e.thread, .int .i64 e.obj, .int .i64 e.arg, .int .i64 e.err] 29 (0, 0))
  obtain ⟨L, hp, r, l0, nL⟩ := o
  have offL : b6 ∉ L.all := fun hm => by obtain ⟨O, hO⟩ := r.known _ hm; rw [n6] at hO; cases hO
  have r3 := r.le l3
  have l03 := PH.le_trans l0 l3
  generalize h2.upd b6 (.cells #[.int .i64 e.kind, .int .i64 e.thread, .int .i64 e.obj, .int .i64 e.arg, .int .i64 e.err] 29 (0, 0)) = h3 at l3 e3 r3 l03 ⊢
  rw [hp]
  refine (meets_Clone r3).mono ?_
  rintro _ h4 ⟨L', rfl, r', l4, n4⟩
  simp only [mp, oP_some]
  have r4 := r3.le l4
  have e4 := l4 _ _ e3
  have l04 := PH.le_trans l03 l4
  simp only [xNn_some, add_mk, cell_mk, upd_at, del_at, if_true, if_false, Option.bind_some, List.getElem?_toArray, List.getElem?_cons_succ, List.getElem?_cons_zero, oI_some, oS_some, oM_some, oB_some, oP_some, oT_some, xIdx_some, Nat.zero_add, Nat.add_zero, Nat.mul_one, e4]
  refine (meets_theirs14 e).look ?_
  simp only [evV, oAgg_mk, xNn_some, add_mk, cell_mk, upd_at, del_at, if_true, if_false, Option.bind_some, List.getElem?_toArray, List.getElem?_cons_succ, List.getElem?_cons_zero, oI_some, oS_some, oM_some, oB_some, oP_some, oT_some, xIdx_some, Nat.zero_add, Nat.add_zero, Nat.mul_one]
  refine ⟨rfl, ?_⟩
  refine (meets_Apply r4 e ks.few).mono ?_
  rintro _ h5 ⟨rfl, r5, x5⟩
  have e5 := x5 _ _ e4 offL
  have dis : ∀ b ∈ L'.all, b ∉ L.all := fun b hb hm => by obtain ⟨O, hO⟩ := r3.known _ hm; rw [n4 b hb] at hO; cases hO
  have r5' := r'.ext x5 dis
  have o5 : MOwn h h5 (.pointer (some p)) (s.next e) := ⟨L, hp, r5, fun y O hO => x5 y O (l04 y O hO) (fun hm => by rw [nL y hm] at hO; cases hO), nL⟩
  have k5 := next_ok ks e
  have still := next_still ks e
  have intr := begin_intr (s := s) (e := e)
  clear x5 r4 r3 e4 e3 l4 l3 n4 r' l04 l03 r
  have fin := hK h5 ⟨_, k5, o5⟩
  simp only [xNn_some, add_mk, cell_mk, upd_at, del_at, if_true, if_false, Option.bind_some, List.getElem?_toArray, List.getElem?_cons_succ, List.getElem?_cons_zero, oI_some, oS_some, oM_some, oB_some, oP_some, oT_some, xIdx_some, Nat.zero_add, Nat.add_zero, Nat.mul_one, e5]
  refine xSc_or (e.err == 10) (fun _ J hJ => hJ) ?_
  simp only [xNn_some, add_mk, cell_mk, upd_at, del_at, if_true, if_false, Option.bind_some, List.getElem?_toArray, List.getElem?_cons_succ, List.getElem?_cons_zero, oI_some, oS_some, oM_some, oB_some, oP_some, oT_some, xIdx_some, Nat.zero_add, Nat.add_zero, Nat.mul_one, e5]
  refine xSc_or (e.err == 14) (fun _ J hJ => hJ) ?_
  simp only [xNn_some, add_mk, cell_mk, upd_at, del_at, if_true, if_false, Option.bind_some, List.getElem?_toArray, List.getElem?_cons_succ, List.getElem?_cons_zero, oI_some, oS_some, oM_some, oB_some, oP_some, oT_some, xIdx_some, Nat.zero_add, Nat.add_zero, Nat.mul_one, e5]
  refine xSc_or (e.err == 11) (fun _ J hJ => hJ) ?_
  refine xSc_or (e.err == 9 || e.err == 10 || e.err == 14 || e.err == 11) (fun _ J hJ => hJ) ?_
  refine xSc_and false (fun hb J hJ => ?_) ?_
  · have hs : s.next e = s := by
      apply still
      simp only [Bool.or_eq_true, bne_iff_ne, ne_eq, beq_iff_eq] at hb
      rcases hb with hb | ((hb | hb) | hb) | hb
      · exact .inl hb
      · exact .inr (.inl hb)
      · exact .inr (.inr (.inl hb))
      · exact .inr (.inr (.inr (.inl hb)))
      · exact .inr (.inr (.inr (.inr hb)))
    rw [hs] at r5
    refine (meets_Same r5 r5' ks.once).look ?_
    simp only [oB_some]
    exact hJ
  rw [Bool.and_false]
  refine ⟨fun hx => (by cases hx), fun _ => ?_⟩
  refine xDraw_self ?_
  simp only [xNn_some, add_mk, cell_mk, upd_at, del_at, if_true, if_false, Option.bind_some, List.getElem?_toArray, List.getElem?_cons_succ, List.getElem?_cons_zero, oI_some, oS_some, oM_some, oB_some, oP_some, oT_some, xIdx_some, Nat.zero_add, Nat.add_zero, Nat.mul_one, e5]
  refine xSc_and (e.kind == 4) (fun _ J hJ => hJ) ?_
  refine xSc_and (e.err == 12) (fun _ J hJ => hJ) ?_
  refine xSc_and false (fun hb J hJ => ?_) ?_
  · simp only [Bool.and_eq_true, beq_iff_eq] at hb
    obtain ⟨i1, i2, i3⟩ := intr hb.1.1 hb.1.2 hb.2
    rw [i3] at r5
    obtain ⟨f1, f2⟩ := flag_setFlag i1
    refine (meets_Flag r5' e.thread).look ?_
    simp only [oB_some, i1, i2]
    refine ⟨PH.le_refl _, ?_⟩
    refine xSc_or false (fun _ J hJ => ?_) ?_
    · refine (meets_Flag r5 e.thread).look ?_
      simp only [oB_some, f1, f2]
      exact ⟨PH.le_refl _, hJ⟩
    refine xSc_or false (fun _ J hJ => ?_) ?_
    · refine (meets_Owner r5 e.obj).look ?_
      simp only [oI_some]
      refine ⟨PH.le_refl _, ?_⟩
      refine (meets_Owner r5' e.obj).look ?_
      simp only [oI_some, at_setFlag, bne_self_eq_false]
      exact ⟨PH.le_refl _, hJ⟩
    refine xSc_or false (fun _ J hJ => ?_) hJ
    refine (meets_Count r5 e.obj).look ?_
    simp only [oI_some]
    refine ⟨PH.le_refl _, ?_⟩
    refine (meets_Count r5' e.obj).look ?_
    simp only [oI_some, at_setFlag, bne_self_eq_false]
    exact ⟨PH.le_refl _, hJ⟩
  rw [Bool.and_false]
  exact ⟨fun hx => (by cases hx), fun _ => fin⟩

end Go.Md

/-
  Calls that are copied; how many the model takes as they stand.
-/
set_option linter.unusedSimpArgs false
set_option linter.unusedVariables false
namespace Go.Ck
open Go Go.Sx Go.Md Go.Proofs Go.Proofs.Ytnnedfhpicdacaa

def ser : Ms → List Cl → Nat × Bool
  | _, [] => (0, true)
  | s, c :: l => if s.code c.event = 0 then ((ser (s.next c.event) l).1 + 1, (ser (s.next c.event) l).2) else (0, false)

theorem ser_cons (s : Ms) (c : Cl) (l : List Cl) : ser s (c :: l) = if s.code c.event = 0 then ((ser (s.next c.event) l).1 + 1, (ser (s.next c.event) l).2) else (0, false) := rfl

theorem meets_Serial {h : PH} {a : Option Addr} {n c : Nat} {l : List Cl} (x : ClsAt h a l) (hl : l.length = n) (hn : n ≤ 1000000) (t o m : Int) (ok : newOk t o m = true) (ho : o ≤ 8) (ht : t ≤ 8) :
    Meets Try.prog 31 #[.int .i64 t, .int .i64 o, .int .i64 m, .slice a n c] h fun v h' => v = .tuple #[.int .i64 (ser (Ms.new t o m) l).1, .bool (ser (Ms.new t o m) l).2] ∧ h' = h := by
  apply Meets.same
  apply P_check_Serial_of
  unfold P_check_Serial
  refine (meets_New t o m ok).mono ?_
  rintro _ h1 ⟨w, rfl, f⟩
  have own := MOwn.of_fresh (PH.le_refl h) f
  clear f
  obtain ⟨p, rfl⟩ := own.ptr
  have k0 := new_ok t o m ht ho
  generalize Ms.new t o m = s0 at own k0 ⊢
  simp only [oTup_mk, oIx_some, oP_some, oI_some, List.getElem?_toArray, List.getElem?_cons_zero, List.getElem?_cons_succ]
  refine ⟨rfl, fun hx => (by cases hx), fun _ => ?_⟩
  refine xBlk_split (fun h' => ser s0 l = (n, true) ∧ h.le h') ?_ fun K hK => ?_
  · rintro h' ⟨e, le⟩
    rw [e]
    exact ⟨rfl, le⟩
  refine xLoop1 (fun (i : Int) h' => 0 ≤ i ∧ i ≤ n ∧ ∃ s : Ms, s.Ok ∧ MOwn h h' (.pointer (some p)) s ∧ ser s0 l = (i.toNat + (ser s (l.drop i.toNat)).1, (ser s (l.drop i.toNat)).2)) (fun (i : Int) _ => ((n : Int) - i).toNat) ?_ ⟨by omega, by omega, s0, k0, own, by simp⟩
  rintro J i h2 ⟨i0, i1, s, ks, own, hs⟩ hJ
  refine ⟨fun hx => ?_, fun hx => ?_⟩
  · have hx := of_decide_eq_true hx
    have hw : IntKind.wrap .i64 (i + 1) = i + 1 := wrap64_id (by omega) (by omega)
    have hmu : ((n : Int) - (i + 1)).toNat < ((n : Int) - i).toNat := by omega
    have j0 : 0 ≤ i + 1 := by omega
    have j1 : i + 1 ≤ n := by omega
    have j2 : (i + 1).toNat = i.toNat + 1 := by omega
    have hi : i.toNat < l.length := by omega
    have hd : l.drop i.toNat = l[i.toNat] :: l.drop (i.toNat + 1) := List.drop_eq_getElem_cons hi
    rw [hd] at hs
    obtain ⟨b, rfl, c0, c1, c2, c3, c4, c5, c6⟩ := cls_at (x.le own.base) (List.getElem?_eq_getElem hi)
    generalize l[i.toNat] = e at c0 c1 c2 c3 c4 c5 c6 hs
    have step : ∀ h' s', s'.Ok → MOwn h h' (.pointer (some p)) s' → ser s0 l = (i.toNat + 1 + (ser s' (l.drop (i.toNat + 1))).1, (ser s' (l.drop (i.toNat + 1))).2) → J (i + 1) h' := fun h' s' k' o' e' => hJ _ _ ⟨j0, j1, s', k', o', by rw [j2]; exact e'⟩ hmu
    clear hJ hmu j0 j1 hK j2
    refine xBlk_split (fun h' => ∃ s' : Ms, s'.Ok ∧ MOwn h h' (.pointer (some p)) s' ∧ ser s0 l = (i.toNat + 1 + (ser s' (l.drop (i.toNat + 1))).1, (ser s' (l.drop (i.toNat + 1))).2)) (fun h' ⟨s', k', o', e'⟩ => by rw [hw]; exact step h' s' k' o' e') fun K hK => ?_
    clear step
    refine ⟨b, rfl, i0, hx, ?_⟩
    simp only [c0, c1, c2, c3, c4, c5, c6, oI_some]
    refine xBox rfl rfl rfl (by decide) (clL_one e) fun b6 h3 l3 n6 e3 => ?_
    have e3' : h3 b6 = some (.cells (clL e).toArray 61 (0, 0)) := e3
    have o3 := own.le l3
    simp only [xNn_some, add_mk, cell_mk, upd_at, del_at, if_true, if_false, Option.bind_some, List.getElem?_toArray, List.getElem?_cons_succ, List.getElem?_cons_zero, oI_some, oS_some, oM_some, oB_some, oP_some, oT_some, xIdx_some, Nat.zero_add, Nat.add_zero, Nat.mul_one, e3', clL]
    refine (o3.apply e.event ks.few).mono ?_
    rintro _ h5 ⟨rfl, o5⟩
    simp only [oI_some]
    rw [ser_cons] at hs
    refine ⟨fun hc => ?_, fun hc => ?_⟩
    · have hc : s.code e.event ≠ 0 := by simpa using hc
      rw [if_neg hc] at hs
      rw [hs]
      have : ((i.toNat : Nat) : Int) = i := by omega
      exact ⟨by simp [this], o5.base⟩
    · have hc : s.code e.event = 0 := by simpa using hc
      rw [if_pos hc] at hs
      exact hK _ ⟨_, next_ok ks e.event, o5, by rw [hs]; simp only [Prod.mk.injEq, and_true]; omega⟩
  · have hx := of_decide_eq_false hx
    have : l.drop i.toNat = [] := List.drop_eq_nil_of_le (by omega)
    rw [this] at hs
    refine hK _ ⟨?_, own.base⟩
    rw [hs]
    simp only [ser, Prod.mk.injEq, and_true]
    omega

theorem meets_Serial_no {h : PH} {a : Option Addr} {n c : Nat} (t o m : Int) (no : newOk t o m = false) :
    Meets Try.prog 31 #[.int .i64 t, .int .i64 o, .int .i64 m, .slice a n c] h fun v h' => v = .tuple #[.int .i64 0, .bool false] ∧ h' = h := by
  apply P_check_Serial_of
  unfold P_check_Serial
  refine (meets_New_no t o m no).look ?_
  simp only [oTup_mk, oIx_some, oP_some, oI_some, List.getElem?_toArray, List.getElem?_cons_zero, List.getElem?_cons_succ]
  exact ⟨rfl, fun _ => ⟨by trivial, by trivial⟩, fun hx => (by cases hx)⟩

theorem meets_theirs23 {h : PH} {a : Option Addr} {n c : Nat} {l : List Cl} (x : ClsAt h a l) (hl : l.length = n) (hn : n ≤ 1000000) :
    Meets Try.prog 26 #[.slice a n c] h fun v h' => ∃ p c' S, v = .slice p n c' ∧ RowIn clL 7 61 h' p n c' l S ∧ h.le h' ∧ ∀ b ∈ S, h b = none := by
  apply P_law23_theirs_of
  unfold P_law23_theirs
  refine xBlk_split3 (fun p m c' h' => m = n ∧ ∃ S, RowIn clL 7 61 h' p m c' l S ∧ h.le h' ∧ ∀ b ∈ S, h b = none) ?_ fun K hK => ?_
  · rintro p m c' h' ⟨rfl, S, r, le, nS⟩
    exact ⟨p, c', S, rfl, r, le, nS⟩
  refine xLoop4 (fun p m c' (i : Int) h' => 0 ≤ i ∧ i ≤ n ∧ ∃ S, RowIn clL 7 61 h' p m c' (l.take i.toNat) S ∧ h.le h' ∧ ∀ b ∈ S, h b = none) (fun _ _ _ (i : Int) _ => ((n : Int) - i).toNat) ?_ ⟨by omega, by omega, [], by simpa using RowIn.nil _ _, PH.le_refl h, by simp⟩
  rintro J p m c' i h2 ⟨i0, i1, S, r, le, nS⟩ hJ
  refine ⟨fun hx => ?_, fun hx => ?_⟩
  · have hx := of_decide_eq_true hx
    have hw : IntKind.wrap .i64 (i + 1) = i + 1 := wrap64_id (by omega) (by omega)
    have hmu : ((n : Int) - (i + 1)).toNat < ((n : Int) - i).toNat := by omega
    have j0 : 0 ≤ i + 1 := by omega
    have j1 : i + 1 ≤ n := by omega
    have j2 : (i + 1).toNat = i.toNat + 1 := by omega
    have hi : i.toNat < l.length := by omega
    have ht : l.take (i.toNat + 1) = l.take i.toNat ++ [l[i.toNat]] := List.take_succ_eq_append_getElem hi
    have len : (l.take i.toNat).length ≤ 1000000 := by rw [List.length_take]; omega
    obtain ⟨b, rfl, c0, c1, c2, c3, c4, c5, c6⟩ := cls_at (x.le le) (List.getElem?_eq_getElem hi)
    have step : ∀ p' m' c' h' S', RowIn clL 7 61 h' p' m' c' (l.take (i.toNat + 1)) S' → h.le h' → (∀ b ∈ S', h b = none) → J p' m' c' (i + 1) h' := fun p' m' c' h' S' r' l' n' => hJ _ _ _ _ _ ⟨j0, j1, S', by rw [j2]; exact r', l', n'⟩ hmu
    rw [ht] at step
    generalize l[i.toNat] = e at c0 c1 c2 c3 c4 c5 c6 step
    clear hJ hmu j0 j1 hK j2
    refine xBlk_split3 (fun p' m' c' h' => ∃ S', RowIn clL 7 61 h' p' m' c' (l.take i.toNat ++ [e]) S' ∧ h.le h' ∧ ∀ b ∈ S', h b = none) (fun p' m' c' h' ⟨S', r', l', n'⟩ => by rw [hw]; exact step p' m' c' h' S' r' l' n') fun K hK => ?_
    clear step
    refine ⟨b, rfl, i0, hx, ?_⟩
    simp only [c0, c1, c2, c3, c4, c5, c6, oI_some]
    refine xBox rfl rfl rfl (by decide) (clL_one e) fun b5 h3 l3 n5 e5 => ?_
    have e5' : h3 b5 = some (.cells (clL e).toArray 65 (0, 0)) := e5
    simp only [xNn_some, add_mk, cell_mk, upd_at, del_at, if_true, if_false, Option.bind_some, List.getElem?_toArray, List.getElem?_cons_succ, List.getElem?_cons_zero, oI_some, oS_some, oM_some, oB_some, oP_some, oT_some, xIdx_some, Nat.zero_add, Nat.add_zero, Nat.mul_one, e5', clL]
    refine xBox rfl rfl rfl (by decide) (by simp [oneCell]) fun b6 h4 l4 n6 e6 => ?_
    have f5 := l4 _ _ e5
    have f5' : h4 b5 = some (.cells (clL e).toArray 65 (0, 0)) := f5
    simp only [xNn_some, add_mk, cell_mk, upd_at, del_at, if_true, if_false, Option.bind_some, List.getElem?_toArray, List.getElem?_cons_succ, List.getElem?_cons_zero, oI_some, oS_some, oM_some, oB_some, oP_some, oT_some, xIdx_some, Nat.zero_add, Nat.add_zero, Nat.mul_one, e6, f5', clL]
    refine xNew_intro fun b32 h5 l5 n32 e32 => ?_
    have le5 := PH.le_trans le (PH.le_trans l3 (PH.le_trans l4 l5))
    have r5 := r.le (PH.le_trans l3 (PH.le_trans l4 l5))
    refine r5.app clL_len (clL_one e) e32 (by omega) ?_
    intro p' m' c'' h6 S' r6 x6 n6
    refine hK _ _ _ _ ⟨S', r6, fun y O hy => x6 y O (le5 _ _ hy) fun hm => (by rw [nS y hm] at hy; cases hy), fun b hb => ?_⟩
    rcases n6 b hb with h' | h'
    · exact nS b h'
    · exact none_of le5 h'
  · have hx := of_decide_eq_false hx
    have e : l.take i.toNat = l := List.take_of_length_le (by omega)
    rw [e] at r
    exact hK _ _ _ _ ⟨r.1.trans hl, S, r, le, nS⟩

end Go.Ck

/-
  Keys of maps that are integers; sets of calls as bits.
-/
set_option linter.unusedSimpArgs false
set_option linter.unusedVariables false
namespace Go.Sx
open Go

def isKeyI (k : IntKind) (v : Value) : Prop := ∃ n, v = .int k n
theorem sameBits_int (k : IntKind) (a b : Int) (n : Nat) : Instr.sameBits (n + 1) (.int k a) (.int k b) = (a == b) := by
  simp [Instr.sameBits]
theorem keyLawInt {P : Program} {t : TypeId} {k : IntKind} (hu : P.underlying t = some (.int k)) : KeyLaw P t (isKeyI k) := by
  refine ⟨fun v _ em w => run_checkKey_int em 9999 v hu, ?_, ?_⟩
  · rintro v es ⟨a, rfl⟩ hes w
    have ask : ∀ (es : List MapEntry) (i : Nat), (∀ e ∈ es, isKeyI k e.key) → Instr.findNow (.int k) (.int k a) es i = some (findE es (.int k a) i) := by
      intro es
      induction es with
      | nil => intro i _; rfl
      | cons e es ih =>
        intro i hes
        obtain ⟨c, hc⟩ := hes e (List.mem_cons_self ..)
        unfold Instr.findNow findE
        rw [hc, sameBits_int]
        simp only [Instr.sameNow, if_true]
        by_cases hh : (a == c) = true
        · simp [hh]
        · have hh' : (a == c) = false := by simpa using hh
          simp only [hh', Bool.false_eq_true, if_false]
          exact ih (i + 1) fun e he => hes e (List.mem_cons_of_mem _ he)
    unfold Instr.findKey
    rw [Sem.run_bind, run_underlying hu]
    simp only [Result.andThen_ok, ask es 0 hes]
    rfl
  · rintro v v' ⟨a, rfl⟩ ⟨b, rfl⟩
    rw [sameBits_int, sameBits_int, Bool.eq_iff_iff]
    constructor <;> intro h <;> simp at h ⊢ <;> exact h.symm

theorem wrapU (n : Nat) (h : n < 2 ^ 64) : IntKind.wrap .u64 (n : Int) = n := by
  unfold IntKind.wrap
  simp only [IntKind.bits, IntKind.signed, Bool.false_and, if_false, Bool.false_eq_true]
  exact Int.emod_eq_of_lt (by omega) (by exact_mod_cast h)
theorem ofIntN (n : Nat) : BitVec.ofInt 64 (n : Int) = BitVec.ofNat 64 n := BitVec.ofInt_natCast 64 n

theorem shl_one (k : Nat) (hk : k < 64) : IntKind.wrap .u64 (1 * 2 ^ (min ((k : Int).toNat) (IntKind.bits .u64))) = ((2 ^ k : Nat) : Int) := by
  have : min ((k : Int).toNat) (IntKind.bits .u64) = k := by
    show min ((k : Int).toNat) 64 = k
    simp; omega
  rw [this, Int.one_mul]
  have := wrapU (2 ^ k) (Nat.pow_lt_pow_right (by decide) hk)
  rw [← this]
  congr 1
theorem powC (k : Nat) : (2 ^ k : Int) = ((2 ^ k : Nat) : Int) := by simp
theorem shr_bit (d k : Nat) (hk : k < 64) (hd : d < 2 ^ 64) :
    (IntKind.wrap .u64 (BitVec.ofInt (IntKind.bits .u64) ((d : Int).fdiv (2 ^ (min ((k : Int).toNat) (IntKind.bits .u64)))) &&& BitVec.ofInt (IntKind.bits .u64) 1).toNat == 1) = d.testBit k := by
  have e0 : min ((k : Int).toNat) (IntKind.bits .u64) = k := by
    show min ((k : Int).toNat) 64 = k
    simp; omega
  have e1 : (d : Int).fdiv (2 ^ k) = ((d >>> k : Nat) : Int) := by
    rw [Nat.shiftRight_eq_div_pow, powC, Int.fdiv_eq_ediv_of_nonneg _ (Int.natCast_nonneg _)]
    exact (Int.natCast_ediv _ _).symm
  rw [e0, e1]
  show (IntKind.wrap .u64 ((BitVec.ofInt 64 ((d >>> k : Nat) : Int) &&& BitVec.ofInt 64 ((1 : Nat) : Int)).toNat : Int) == 1) = d.testBit k
  rw [ofIntN, ofIntN]
  have e2 : (BitVec.ofNat 64 (d >>> k) &&& BitVec.ofNat 64 1).toNat = (d >>> k) % 2 := by
    rw [BitVec.toNat_and, BitVec.toNat_ofNat, BitVec.toNat_ofNat, Nat.mod_eq_of_lt (Nat.lt_of_le_of_lt (Nat.shiftRight_le _ _) hd)]
    exact Nat.and_one_is_mod _
  rw [e2, wrapU _ (by omega)]
  have e3 : d.testBit k = ((d >>> k) % 2 == 1) := by
    rw [Nat.testBit, Nat.and_comm, Nat.and_one_is_mod]
    rcases Nat.mod_two_eq_zero_or_one (d >>> k) with h | h <;> simp [h]
  rw [e3]
  rcases Nat.mod_two_eq_zero_or_one (d >>> k) with h | h <;> simp [h]
theorem or_bits (d e : Nat) (hd : d < 2 ^ 64) (he : e < 2 ^ 64) :
    IntKind.wrap .u64 (BitVec.ofInt (IntKind.bits .u64) (d : Int) ||| BitVec.ofInt (IntKind.bits .u64) (e : Int)).toNat = ((d ||| e : Nat) : Int) := by
  show IntKind.wrap .u64 ((BitVec.ofInt 64 (d : Int) ||| BitVec.ofInt 64 (e : Int)).toNat : Int) = _
  rw [ofIntN, ofIntN]
  have : (BitVec.ofNat 64 d ||| BitVec.ofNat 64 e).toNat = d ||| e := by
    rw [BitVec.toNat_or, BitVec.toNat_ofNat, BitVec.toNat_ofNat, Nat.mod_eq_of_lt hd, Nat.mod_eq_of_lt he]
  rw [this]
  exact wrapU _ (Nat.or_lt_two_pow hd he)
theorem andNot_bits (o d : Nat) (ho : o < 2 ^ 64) (hd : d < 2 ^ 64) :
    (IntKind.wrap .u64 (BitVec.ofInt (IntKind.bits .u64) (o : Int) &&& ~~~(BitVec.ofInt (IntKind.bits .u64) (d : Int))).toNat != 0) = true ↔ ∃ i, i < 64 ∧ o.testBit i = true ∧ d.testBit i = false := by
  show (IntKind.wrap .u64 ((BitVec.ofInt 64 (o : Int) &&& ~~~(BitVec.ofInt 64 (d : Int))).toNat : Int) != 0) = true ↔ _
  rw [ofIntN, ofIntN, wrapU _ (BitVec.isLt _)]
  have e1 : (((BitVec.ofNat 64 o &&& ~~~(BitVec.ofNat 64 d)).toNat : Int) != 0) = true ↔ BitVec.ofNat 64 o &&& ~~~(BitVec.ofNat 64 d) ≠ 0#64 := by
    rw [bne_iff_ne]
    constructor
    · intro h h2; rw [h2] at h; exact h rfl
    · intro h h2; exact h (BitVec.eq_of_toNat_eq (by simpa using h2))
  rw [e1]
  have bit : ∀ i, i < 64 → (BitVec.ofNat 64 o &&& ~~~(BitVec.ofNat 64 d)).getLsbD i = (o.testBit i && !d.testBit i) := by
    intro i hi
    rw [BitVec.getLsbD_and, BitVec.getLsbD_not, BitVec.getLsbD_ofNat, BitVec.getLsbD_ofNat]
    simp [hi]
  constructor
  · intro h
    by_cases hx : ∃ i, i < 64 ∧ o.testBit i = true ∧ d.testBit i = false
    · exact hx
    · exfalso
      apply h
      apply BitVec.eq_of_getLsbD_eq
      intro i hi
      rw [bit i hi]
      simp only [BitVec.getLsbD_zero]
      cases h1 : o.testBit i with
      | false => rfl
      | true =>
        cases h2 : d.testBit i with
        | true => rfl
        | false => exact absurd ⟨i, hi, h1, h2⟩ hx
  · rintro ⟨i, hi, h1, h2⟩ h
    have := bit i hi
    rw [h, h1, h2] at this
    simp at this
end Go.Sx

/-
  Of each call, those that were over ahead of it.
-/
set_option linter.unusedSimpArgs false
set_option linter.unusedVariables false
namespace Go.Ck
open Go Go.Sx Go.Md Go.Proofs Go.Proofs.Ytnnedfhpicdacaa

def ovrN (l : List Cl) (k : Nat) : Nat → Nat
  | 0 => 0
  | m + 1 => if (cl l m).to < (cl l k).fr then ovrN l k m ||| 2 ^ m else ovrN l k m
def ovr (l : List Cl) (k : Nat) : Nat := ovrN l k l.length
theorem ovrN_bit (l : List Cl) (k : Nat) : ∀ m i, (ovrN l k m).testBit i = (decide (i < m) && decide ((cl l i).to < (cl l k).fr)) := by
  intro m
  induction m with
  | zero => intro i; simp [ovrN]
  | succ m ih =>
    intro i
    unfold ovrN
    split
    · rename_i h
      rw [testBit_or_pow, ih]
      by_cases e : m = i
      · subst e; simp [h]
      · have : decide (i < m + 1) = decide (i < m) := by
          rw [decide_eq_decide]; omega
        rw [this]; simp [e]
    · rename_i h
      rw [ih]
      by_cases e : m = i
      · subst e; simp [h]
      · have : decide (i < m + 1) = decide (i < m) := by
          rw [decide_eq_decide]; omega
        rw [this]
theorem ovr_bit (l : List Cl) (k i : Nat) : (ovr l k).testBit i = (decide (i < l.length) && decide ((cl l i).to < (cl l k).fr)) := ovrN_bit l k _ i
theorem ovrN_lt (l : List Cl) (k m : Nat) : ovrN l k m < 2 ^ m := by
  induction m with
  | zero => simp [ovrN]
  | succ m ih =>
    have h2 : 2 ^ m < 2 ^ (m + 1) := Nat.pow_lt_pow_right (by decide) (by omega)
    unfold ovrN
    split
    · exact Nat.or_lt_two_pow (by omega) h2
    · omega
theorem ovr_lt (l : List Cl) (k : Nat) (h : l.length ≤ 63) : ovr l k < 2 ^ 64 := Nat.lt_of_lt_of_le (ovrN_lt l k _) (Nat.pow_le_pow_right (by decide) (by omega))
theorem ovrN_lt64 (l : List Cl) (k m : Nat) (h : m ≤ 63) : ovrN l k m < 2 ^ 64 := Nat.lt_of_lt_of_le (ovrN_lt l k _) (Nat.pow_le_pow_right (by decide) (by omega))
/-- Whether a call may be the next one, as the code asks. -/
theorem free_code (l : List Cl) (done k : Nat) (hn : l.length ≤ 63) (hd : done < 2 ^ 64) (hk : k < 64) :
    (done.testBit k || (IntKind.wrap .u64 (BitVec.ofInt (IntKind.bits .u64) ((ovr l k : Nat) : Int) &&& ~~~(BitVec.ofInt (IntKind.bits .u64) (done : Int))).toNat != 0)) = !freeK l done k := by
  have h1 := andNot_bits (ovr l k) done (ovr_lt l k hn) hd
  generalize (IntKind.wrap .u64 (BitVec.ofInt (IntKind.bits .u64) ((ovr l k : Nat) : Int) &&& ~~~(BitVec.ofInt (IntKind.bits .u64) (done : Int))).toNat != 0) = b at h1
  cases hb : done.testBit k with
  | true => simp [freeK, hb]
  | false =>
    rw [Bool.false_or]
    cases hf : freeK l done k with
    | true =>
      obtain ⟨_, h2⟩ := free_spec hf
      cases b with
      | false => rfl
      | true =>
        obtain ⟨i, _, ho, hd'⟩ := h1.1 rfl
        rw [ovr_bit] at ho
        simp only [Bool.and_eq_true, decide_eq_true_eq] at ho
        rw [h2 i ho.1 ho.2] at hd'
        cases hd'
    | false =>
      cases b with
      | true => rfl
      | false =>
        have : freeK l done k = true := by
          refine free_mk hb fun i hi hlt => ?_
          cases hx : done.testBit i with
          | true => rfl
          | false =>
            have := h1.2 ⟨i, by omega, by rw [ovr_bit]; simp [hi, hlt], hx⟩
            cases this
        rw [hf] at this; cases this

def uL (x : Nat) : List Value := [.int .u64 x]
theorem uL_len (x : Nat) : (uL x).length = 1 := rfl

theorem meets_ahead {h : PH} {a : Option Addr} {n c : Nat} {l : List Cl} (x : ClsAt h a l) (hl : l.length = n) (hn : n ≤ 60) :
    Meets Try.prog 88 #[.slice a n c] h fun v h' => ∃ p c' S, v = .slice p n c' ∧ RowIn uL 1 167 h' p n c' ((List.range n).map (ovr l)) S ∧ h.le h' ∧ ∀ b ∈ S, h b = none := by
  apply P_check_ahead_of
  unfold P_check_ahead
  refine xBlk_split3 (fun p m c' h' => m = n ∧ ∃ S, RowIn uL 1 167 h' p m c' ((List.range n).map (ovr l)) S ∧ h.le h' ∧ ∀ b ∈ S, h b = none) ?_ fun K hK => ?_
  · rintro p m c' h' ⟨rfl, S, r, le, nS⟩
    exact ⟨p, c', S, rfl, r, le, nS⟩
  refine xLoop4 (fun p m c' (i : Int) h' => 0 ≤ i ∧ i ≤ n ∧ ∃ S, RowIn uL 1 167 h' p m c' ((List.range i.toNat).map (ovr l)) S ∧ h.le h' ∧ ∀ b ∈ S, h b = none) (fun _ _ _ (i : Int) _ => ((n : Int) - i).toNat) ?_ ⟨by omega, by omega, [], by simpa using RowIn.nil _ _, PH.le_refl h, by simp⟩
  rintro J p m c' i h2 ⟨i0, i1, S, r, le, nS⟩ hJ
  refine ⟨fun hx => ?_, fun hx => ?_⟩
  · have hx := of_decide_eq_true hx
    have hw : IntKind.wrap .i64 (i + 1) = i + 1 := wrap64_id (by omega) (by omega)
    have hmu : ((n : Int) - (i + 1)).toNat < ((n : Int) - i).toNat := by omega
    have j0 : 0 ≤ i + 1 := by omega
    have j1 : i + 1 ≤ n := by omega
    have j2 : (i + 1).toNat = i.toNat + 1 := by omega
    have hi : i.toNat < l.length := by omega
    have len : ((List.range i.toNat).map (ovr l)).length ≤ 1000 := by simp; omega
    have step : ∀ p' m' c' h' S', RowIn uL 1 167 h' p' m' c' ((List.range i.toNat).map (ovr l) ++ [ovr l i.toNat]) S' → h.le h' → (∀ b ∈ S', h b = none) → J p' m' c' (i + 1) h' := fun p' m' c' h' S' r' l' n' => hJ _ _ _ _ _ ⟨j0, j1, S', by rw [j2, List.range_succ, List.map_append]; exact r', l', n'⟩ hmu
    obtain ⟨b, rfl, c0, c1, c2, c3, c4, c5, c6⟩ := cls_at (x.le le) (List.getElem?_eq_getElem hi)
    have hcl : cl l i.toNat = l[i.toNat] := by simp [cl, List.getD_eq_getElem?_getD, hi]
    rw [← hcl] at c0 c1 c2 c3 c4 c5 c6
    clear hJ hmu j0 j1 hK j2
    refine xBlk_split3 (fun p' m' c' h' => ∃ S', RowIn uL 1 167 h' p' m' c' ((List.range i.toNat).map (ovr l) ++ [ovr l i.toNat]) S' ∧ h.le h' ∧ ∀ b ∈ S', h b = none) (fun p' m' c' h' ⟨S', r', l', n'⟩ => by rw [hw]; exact step p' m' c' h' S' r' l' n') fun K hK => ?_
    clear step
    refine ⟨b, rfl, i0, hx, ?_⟩
    simp only [c0, c1, c2, c3, c4, c5, c6, oI_some]
    refine xBox rfl rfl rfl (by decide) (clL_one (cl l i.toNat)) fun b5 h3 l3 n5 e5 => ?_
    have e5' : h3 b5 = some (.cells (clL (cl l i.toNat)).toArray 61 (0, 0)) := e5
    have le3 := PH.le_trans le l3
    have r3 := r.le l3
    clear e5 c0 c1 c2 c3 c4 c5 c6 l3 n5 r le
    refine xBlk_split1 (fun (u : Int) h' => u = ((ovr l i.toNat : Nat) : Int) ∧ h3.le h') ?_ fun K2 hK2 => ?_
    · rintro u h4 ⟨rfl, l4⟩
      refine xNew_intro fun b34 h5 l5 n34 e34 => ?_
      have r5 := (r3.le l4).le l5
      have le5 := PH.le_trans le3 (PH.le_trans l4 l5)
      refine r5.app (x := ovr l i.toNat) uL_len (by simp [uL, oneCell]) e34 (by omega) ?_
      intro p' m' c'' h6 S' r6 x6 n6
      refine hK _ _ _ _ ⟨S', r6, fun y O hy => x6 y O (le5 _ _ hy) fun hm => (by rw [nS y hm] at hy; cases hy), fun b hb => ?_⟩
      rcases n6 b hb with h' | h'
      · exact nS b h'
      · exact none_of le5 h'
    refine xLoop2 (fun (u j : Int) h' => 0 ≤ j ∧ j ≤ n ∧ u = ((ovrN l i.toNat j.toNat : Nat) : Int) ∧ h3.le h') (fun _ (j : Int) _ => ((n : Int) - j).toNat) ?_ ⟨by omega, by omega, by simp [ovrN], PH.le_refl _⟩
    rintro J2 u j h4 ⟨q0, q1, rfl, l4⟩ hJ2
    refine ⟨fun hy => ?_, fun hy => ?_⟩
    · have hy := of_decide_eq_true hy
      have hw2 : IntKind.wrap .i64 (j + 1) = j + 1 := wrap64_id (by omega) (by omega)
      have hmu : ((n : Int) - (j + 1)).toNat < ((n : Int) - j).toNat := by omega
      have j2 : (j + 1).toNat = j.toNat + 1 := by omega
      have hj : j.toNat < l.length := by omega
      have q2 : 0 ≤ j + 1 := by omega
      have q3 : j + 1 ≤ n := by omega
      have step : ∀ h', h3.le h' → J2 ((ovrN l i.toNat (j.toNat + 1) : Nat) : Int) (j + 1) h' := fun h' l' => hJ2 _ _ _ ⟨q2, q3, by rw [j2], l'⟩ hmu
      obtain ⟨b', hb', c0, c1, c2, c3, c4, c5, c6⟩ := cls_at (x.le (PH.le_trans le3 l4)) (List.getElem?_eq_getElem hj)
      injection hb' with hb'
      subst hb'
      have hcl : cl l j.toNat = l[j.toNat] := by simp [cl, List.getD_eq_getElem?_getD, hj]
      rw [← hcl] at c0 c1 c2 c3 c4 c5 c6
      clear hJ2 hmu q2 q3 hK2
      refine xBlk_split1 (fun (u : Int) h' => u = ((ovrN l i.toNat (j.toNat + 1) : Nat) : Int) ∧ h3.le h') (fun u h' ⟨e, l'⟩ => by subst e; rw [hw2]; exact step h' l') fun K3 hK3 => ?_
      refine ⟨b, rfl, q0, hy, ?_⟩
      simp only [c0, c1, c2, c3, c4, c5, c6, oI_some]
      refine xBox rfl rfl rfl (by decide) (clL_one (cl l j.toNat)) fun b8 h5 l5 n8 e8 => ?_
      have e8' : h5 b8 = some (.cells (clL (cl l j.toNat)).toArray 61 (0, 0)) := e8
      have f5 := l5 _ _ (l4 _ _ e5')
      have le5 := PH.le_trans l4 l5
      simp only [xNn_some, add_mk, cell_mk, upd_at, del_at, if_true, if_false, Option.bind_some, List.getElem?_toArray, List.getElem?_cons_succ, List.getElem?_cons_zero, oI_some, oS_some, oM_some, oB_some, oP_some, oT_some, xIdx_some, Nat.zero_add, Nat.add_zero, Nat.mul_one, e8', f5, clL]
      have hj64 : j.toNat < 64 := by omega
      have hjc : j = ((j.toNat : Nat) : Int) := by omega
      refine ⟨fun hc => ?_, fun hc => ?_⟩
      · have hc := of_decide_eq_true hc
        refine ⟨q0, ?_⟩
        refine hK3 _ _ ⟨?_, le5⟩
        have e1 : ovrN l i.toNat (j.toNat + 1) = ovrN l i.toNat j.toNat ||| 2 ^ j.toNat := by
          show (if _ then _ else _) = _
          rw [if_pos hc]
        have e2 := shl_one j.toNat hj64
        rw [← hjc] at e2
        rw [e2, or_bits _ _ (ovrN_lt64 _ _ _ (by omega)) (Nat.pow_lt_pow_right (by decide) hj64), e1]
      · have hc := of_decide_eq_false hc
        refine hK3 _ _ ⟨?_, le5⟩
        have e1 : ovrN l i.toNat (j.toNat + 1) = ovrN l i.toNat j.toNat := by
          show (if _ then _ else _) = _
          rw [if_neg hc]
        rw [e1]
    · have hy := of_decide_eq_false hy
      have : j.toNat = l.length := by omega
      refine hK2 _ _ ⟨?_, l4⟩
      rw [this]; rfl
  · have hx := of_decide_eq_false hx
    have e : i.toNat = n := by omega
    rw [e] at r
    exact hK _ _ _ _ ⟨r.1.trans (by simp), S, r, le, nS⟩

end Go.Ck
