/-
  What a log keeps in order; its turns.
-/
import Derived.Test.YtnnedfhpicdacaaG0
import Derived.Test.YtnnedfhpicdacaaN1
set_option linter.unusedSimpArgs false
set_option linter.unusedVariables false
namespace Go.Gh
open Go Go.Md

theorem turn_spec {g g' : Gs} {e : En} (h : g.turn e = some g') : g.fits e = true ∧ g'.entries = g.entries ∧ g'.objects = g.objects ∧ (g'.model = g.model ∨ g'.model = g.model.next e.event) ∧ ∃ x, g'.threads = g.threads.set e.thread.toNat x ∨ g'.threads = g.threads := by
  unfold Gs.turn at h
  split at h
  · cases h
  rename_i hf
  have hf : g.fits e = true := by simpa using hf
  split at h
  · split at h
    · cases h
    · simp only [Option.some.injEq] at h; subst h
      exact ⟨hf, rfl, rfl, .inl rfl, _, .inl rfl⟩
  split at h
  · split at h
    · cases h
    · simp only [Option.some.injEq] at h; subst h
      exact ⟨hf, rfl, rfl, .inr rfl, _, .inl rfl⟩
  split at h
  · split at h
    · cases h
    · simp only [Option.some.injEq] at h; subst h
      exact ⟨hf, rfl, rfl, .inl rfl, _, .inl rfl⟩
  · simp only [Option.some.injEq] at h; subst h
    exact ⟨hf, rfl, rfl, .inl rfl, th0, .inr rfl⟩

theorem next_cases (g : Gs) (e : En) : (g.next e = g ∧ g.add e = none) ∨ ∃ g', g.turn e = some g' ∧ g.next e = { g' with entries := g.entries ++ [e] } ∧ g.add e = some { g' with entries := g.entries ++ [e] } := by
  unfold Gs.next Gs.add
  cases h : g.turn e with
  | none => exact .inl ⟨rfl, rfl⟩
  | some g' =>
    right
    refine ⟨g', rfl, ?_, ?_⟩
    · simp only [Option.map_some, Option.getD_some]
      rw [(turn_spec h).2.1]
    · simp only [Option.map_some]
      rw [(turn_spec h).2.1]

structure Gs.Ok (g : Gs) : Prop where
  m : g.model.Ok
theorem gnext_ok {g : Gs} (k : g.Ok) (e : En) : (g.next e).Ok := by
  rcases next_cases g e with ⟨h, _⟩ | ⟨g', ht, h, _⟩
  · rw [h]; exact k
  · rw [h]
    obtain ⟨_, _, _, hm, _⟩ := turn_spec ht
    refine ⟨?_⟩
    show g'.model.Ok
    rcases hm with hm | hm
    · rw [hm]; exact k.m
    · rw [hm]; exact next_ok k.m _
theorem gnext_len (g : Gs) (e : En) : (g.next e).entries.length ≤ g.entries.length + 1 := by
  rcases next_cases g e with ⟨h, _⟩ | ⟨g', ht, h, _⟩
  · rw [h]; omega
  · rw [h]; simp
theorem gnew_ok (t o c : Int) (ht : t ≤ 8) (ho : o ≤ 8) : (Gs.new t o c).Ok := ⟨new_ok t o c ht ho⟩

/-! ### Who called and did not return calls no more -/
structure Ck where
  opens : List Bool
  calls : List Int
  commits : List Int
def ck0 : Ck := ⟨List.replicate 4 false, List.replicate 4 0, List.replicate 4 0⟩
def Ck.o (c : Ck) (t : Int) : Bool := c.opens.getD t.toNat false
def Ck.n (c : Ck) (t : Int) : Int := c.calls.getD t.toNat 0
def Ck.k (c : Ck) (t : Int) : Int := c.commits.getD t.toNat 0
def Ck.step (c : Ck) (e : En) : Option Ck :=
  if (decide (e.thread < 0) || decide (e.thread > 3)) = true then none
  else if e.kind = 1 then
    (if (c.o e.thread || e.number != c.n e.thread) = true then none
     else some ⟨c.opens.set e.thread.toNat true, c.calls.set e.thread.toNat (IntKind.wrap .i64 (c.n e.thread + 1)), c.commits.set e.thread.toNat 0⟩)
  else if e.kind = 2 then
    (if c.o e.thread = true then some { c with commits := c.commits.set e.thread.toNat (IntKind.wrap .i64 (c.k e.thread + 1)) } else none)
  else
    (if (!c.o e.thread || c.k e.thread == 0 || e.number != IntKind.wrap .i64 (c.n e.thread - 1)) = true then none
     else some { c with opens := c.opens.set e.thread.toNat false })
structure Ck.Has (c : Ck) (g : Gs) : Prop where
  l1 : c.opens.length = 4
  l2 : c.calls.length = 4
  l3 : c.commits.length = 4
  l4 : g.threads.length = 4
  o : ∀ t : Nat, t < 4 → c.opens.getD t false = (g.threads.getD t th0).opn
  n : ∀ t : Nat, t < 4 → c.calls.getD t 0 = (g.threads.getD t th0).calls
  k : ∀ t : Nat, t < 4 → (g.threads.getD t th0).opn = true → c.commits.getD t 0 = (g.threads.getD t th0).many
/-- A log's entries are in turns. -/
def Gs.Turns (g : Gs) : Prop := ∃ c, g.entries.foldlM Ck.step ck0 = some c ∧ c.Has g

theorem getD_set {α : Type} (l : List α) (i j : Nat) (x d : α) (h : i < l.length) : (l.set i x).getD j d = if i = j then x else l.getD j d := by
  simp only [List.getD_eq_getElem?_getD, List.getElem?_set]
  by_cases e : i = j
  · subst e; simp [h]
  · simp [e]

theorem turns_new (o c : Int) : (Gs.new 4 o c).Turns := by
  refine ⟨ck0, rfl, rfl, rfl, rfl, rfl, ?_, ?_, ?_⟩
  all_goals
    intro t ht
    have : t = 0 ∨ t = 1 ∨ t = 2 ∨ t = 3 := by omega
    rcases this with rfl | rfl | rfl | rfl <;> first | rfl | (intro h; cases h)

theorem turns_next {g : Gs} (k : g.Turns) (e : En) : (g.next e).Turns := by
  rcases next_cases g e with ⟨h, _⟩ | ⟨g', ht, h, _⟩
  · rw [h]; exact k
  rw [h]
  obtain ⟨c, hc, hh⟩ := k
  obtain ⟨l1, l2, l3, l4, ho, hn, hk⟩ := hh
  have fin : ∀ c', c.step e = some c' → c'.Has { g' with entries := g.entries ++ [e] } → ({ g' with entries := g.entries ++ [e] } : Gs).Turns := by
    intro c' h1 h2
    refine ⟨c', ?_, h2⟩
    show (g.entries ++ [e]).foldlM Ck.step ck0 = some c'
    rw [List.foldlM_append, hc]
    simp [h1]
  obtain ⟨hfit, _⟩ := turn_spec ht
  have hf := hfit
  simp only [Gs.fits, Bool.and_eq_true, Bool.not_eq_true', decide_eq_false_iff_not] at hf
  have t0 : 0 ≤ e.thread := by omega
  have t1 : e.thread < 4 := by omega
  have t4 : e.thread.toNat < 4 := by omega
  have rng : (decide (e.thread < 0) || decide (e.thread > 3)) = false := by simp; omega
  have bare := hf.1.1
  have eo : c.o e.thread = (g.th e.thread).opn := ho _ t4
  have en : c.n e.thread = (g.th e.thread).calls := hn _ t4
  have ek : (g.th e.thread).opn = true → c.k e.thread = (g.th e.thread).many := hk _ t4
  have st : c.step e = if e.kind = 1 then
    (if (c.o e.thread || e.number != c.n e.thread) = true then none
     else some ⟨c.opens.set e.thread.toNat true, c.calls.set e.thread.toNat (IntKind.wrap .i64 (c.n e.thread + 1)), c.commits.set e.thread.toNat 0⟩)
  else if e.kind = 2 then
    (if c.o e.thread = true then some { c with commits := c.commits.set e.thread.toNat (IntKind.wrap .i64 (c.k e.thread + 1)) } else none)
  else
    (if (!c.o e.thread || c.k e.thread == 0 || e.number != IntKind.wrap .i64 (c.n e.thread - 1)) = true then none
     else some { c with opens := c.opens.set e.thread.toNat false }) := by unfold Ck.step; rw [if_neg (by rw [rng]; simp)]
  have glen : ∀ x, (g.threads.set e.thread.toNat x).length = 4 := fun x => by simp [l4]
  have gget : ∀ x (t : Nat), (g.threads.set e.thread.toNat x).getD t th0 = if e.thread.toNat = t then x else g.threads.getD t th0 := fun x t => getD_set _ _ _ _ _ (by rw [l4]; exact t4)
  unfold Gs.turn at ht
  rw [if_neg (by rw [hfit]; simp)] at ht
  by_cases k1 : e.kind = 1
  · rw [if_pos k1] at ht st
    split at ht
    · cases ht
    rename_i hb
    simp only [Bool.or_eq_true, not_or, Bool.not_eq_true] at hb
    obtain ⟨⟨b1, b2⟩, _⟩ := hb
    rw [eo, en, b1, b2, if_neg (by simp)] at st
    simp only [Option.some.injEq] at ht
    subst ht
    refine fin _ st ⟨by simp [l1], by simp [l2], by simp [l3], glen _, ?_, ?_, ?_⟩
    · intro t h4
      show (c.opens.set _ _).getD t false = ((g.threads.set e.thread.toNat _).getD t th0).opn
      rw [getD_set _ _ _ _ _ (by omega), gget]
      split
      · rfl
      · exact ho t h4
    · intro t h4
      show (c.calls.set _ _).getD t 0 = ((g.threads.set e.thread.toNat _).getD t th0).calls
      rw [getD_set _ _ _ _ _ (by omega), gget]
      split
      · rfl
      · exact hn t h4
    · intro t h4
      show ((g.threads.set e.thread.toNat _).getD t th0).opn = true → (c.commits.set _ _).getD t 0 = ((g.threads.set e.thread.toNat _).getD t th0).many
      rw [gget, getD_set _ _ _ _ _ (by omega)]
      split
      · intro _; rfl
      · exact hk t h4
  by_cases k2 : e.kind = 2
  · rw [if_neg k1, if_pos k2] at ht st
    split at ht
    · cases ht
    rename_i hb
    simp only [Bool.or_eq_true, not_or, Bool.not_eq_true, Bool.not_eq_false'] at hb
    have op : (g.th e.thread).opn = true := by
      have := hb.1
      unfold Th.takes at this
      cases h : (g.th e.thread).opn with
      | true => rfl
      | false => rw [h] at this; simp at this
    rw [eo, op, if_pos rfl, ek op] at st
    simp only [Option.some.injEq] at ht
    subst ht
    refine fin _ st ⟨l1, l2, by simp [l3], glen _, ?_, ?_, ?_⟩
    · intro t h4
      show c.opens.getD t false = ((g.threads.set e.thread.toNat _).getD t th0).opn
      rw [gget]
      split
      · rename_i h; subst h; exact ho _ h4
      · exact ho t h4
    · intro t h4
      show c.calls.getD t 0 = ((g.threads.set e.thread.toNat _).getD t th0).calls
      rw [gget]
      split
      · rename_i h; subst h; exact hn _ h4
      · exact hn t h4
    · intro t h4
      show ((g.threads.set e.thread.toNat _).getD t th0).opn = true → (c.commits.set _ _).getD t 0 = ((g.threads.set e.thread.toNat _).getD t th0).many
      rw [gget, getD_set _ _ _ _ _ (by omega)]
      split
      · intro _; rfl
      · exact hk t h4
  have k3 : e.kind = 3 := by
    simp only [En.bare, k1, k2, if_false] at bare
    split at bare
    · assumption
    · cases bare
  rw [if_neg k1, if_neg k2] at st
  rw [if_neg k1, if_neg k2, if_pos k3] at ht
  split at ht
  · cases ht
  rename_i hb
  simp only [Bool.or_eq_true, not_or, Bool.not_eq_true, Bool.not_eq_false'] at hb
  obtain ⟨⟨⟨b1, b2⟩, _⟩, _⟩ := hb
  have op : (g.th e.thread).opn = true ∧ ((g.th e.thread).many == 0) = false := by
    unfold Th.told at b1
    cases h : (g.th e.thread).opn with
    | false => rw [h] at b1; simp at b1
    | true =>
      cases h2 : ((g.th e.thread).many == 0) with
      | false => exact ⟨rfl, rfl⟩
      | true => rw [h, h2] at b1; simp at b1
  rw [eo, en, ek op.1, op.1, op.2, b2, if_neg (by simp)] at st
  simp only [Option.some.injEq] at ht
  subst ht
  refine fin _ st ⟨by simp [l1], l2, l3, glen _, ?_, ?_, ?_⟩
  · intro t h4
    show (c.opens.set _ _).getD t false = ((g.threads.set e.thread.toNat _).getD t th0).opn
    rw [getD_set _ _ _ _ _ (by omega), gget]
    split
    · rfl
    · exact ho t h4
  · intro t h4
    show c.calls.getD t 0 = ((g.threads.set e.thread.toNat _).getD t th0).calls
    rw [gget]
    split
    · rename_i h; subst h; exact hn _ h4
    · exact hn t h4
  · intro t h4
    show ((g.threads.set e.thread.toNat _).getD t th0).opn = true → c.commits.getD t 0 = ((g.threads.set e.thread.toNat _).getD t th0).many
    rw [gget]
    split
    · intro h; cases h
    · exact hk t h4

end Go.Gh
