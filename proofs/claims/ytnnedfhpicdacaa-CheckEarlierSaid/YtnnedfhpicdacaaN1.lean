/-
  What transitions leave as it was.
-/
import Derived.Test.YtnnedfhpicdacaaT0
set_option linter.unusedSimpArgs false
set_option linter.unusedVariables false
namespace Go.Md
open Go

/-- Why one left: by a Wake, by the time, by an interrupt. -/
def whyOk (l : Pl (Int × Int)) : Prop := ∀ p ∈ l, p.2.2.2 = 0 ∨ p.2.2.2 = 12 ∨ p.2.2.2 = 13
structure Ms.Ok (s : Ms) : Prop where
  once : s.Once
  why : whyOk s.left
  nm : s.mons.length ≤ 8
  nf : s.flags.length ≤ 8
  rw : inRng s.waits
  rl : inRng s.left
theorem Ms.Ok.few {s : Ms} (k : s.Ok) : s.waits.length ≤ 64 := Pl.once_le k.once.w k.rw
theorem Ms.Ok.few' {s : Ms} (k : s.Ok) : s.left.length ≤ 64 := Pl.once_le k.once.l k.rl

theorem Pl.mem_put {α : Type} {l : Pl α} {o t : Int} {x : α} {p : Int × Int × α} (h : p ∈ l.put o t x) : p ∈ l ∨ p = (o, t, x) := by
  induction l with
  | nil => simp [Pl.put] at h; exact .inr h
  | cons q l ih =>
    unfold Pl.put at h
    split at h
    · rcases List.mem_cons.1 h with h | h
      · exact .inr h
      · exact .inl (List.mem_cons_of_mem _ h)
    · rcases List.mem_cons.1 h with h | h
      · exact .inl (h ▸ List.mem_cons_self ..)
      · rcases ih h with h | h
        · exact .inl (List.mem_cons_of_mem _ h)
        · exact .inr h
theorem Pl.find_in {α : Type} {l : Pl α} {o t : Int} {x : α} (h : l.find o t = some x) : ∃ p ∈ l, p.2.2 = x := by
  unfold Pl.find at h
  cases hf : List.find? (fun p => p.1 == o && p.2.1 == t) l with
  | none => rw [hf] at h; cases h
  | some p =>
    rw [hf] at h
    simp only [Option.map_some, Option.some.injEq] at h
    exact ⟨p, List.mem_of_find?_eq_some hf, h⟩

theorem Pl.find_key {α : Type} {l : Pl α} {o t : Int} {x : α} (h : l.find o t = some x) : ∃ p ∈ l, p.1 = o ∧ p.2.1 = t := by
  unfold Pl.find at h
  cases hf : List.find? (fun p => p.1 == o && p.2.1 == t) l with
  | none => rw [hf] at h; cases h
  | some p =>
    have := List.find?_some hf
    simp only [Bool.and_eq_true, beq_iff_eq] at this
    exact ⟨p, List.mem_of_find?_eq_some hf, this.1, this.2⟩
theorem inRng_put {α : Type} {l : Pl α} {o t : Int} {x : α} (r : inRng l) (ho : 0 ≤ o ∧ o < 8) (ht : 0 ≤ t ∧ t < 8) : inRng (l.put o t x) := by
  intro p hp
  rcases Pl.mem_put hp with h | h
  · exact r p h
  · subst h; exact ⟨ho, ht⟩
theorem inRng_del {α : Type} {l : Pl α} {o t : Int} (r : inRng l) : inRng (l.del o t) := fun p hp => r p ((Pl.del_sub _ _ _).subset hp)

theorem ok_leave {s s' : Ms} (k : s.Ok) {o t w : Int} (hw : w = 0 ∨ w = 12 ∨ w = 13) (h : s.leave o t w = some s') : s'.Ok := by
  unfold Ms.leave at h
  cases hf : s.waits.find o t with
  | none => rw [hf] at h; cases h
  | some n =>
    rw [hf] at h
    simp only [Option.some.injEq] at h
    subst h
    obtain ⟨q, hq, e1, e2⟩ := Pl.find_key hf
    have hr := k.rw q hq
    rw [e1, e2] at hr
    refine ⟨⟨Pl.once_del k.once.w _ _, Pl.once_put k.once.l _ _ _⟩, fun p hp => ?_, k.nm, k.nf, inRng_del k.rw, inRng_put k.rl hr.1 hr.2⟩
    rcases Pl.mem_put hp with h | h
    · exact k.why p h
    · subst h; exact hw

/-- A transition that is taken, and tells ErrState, ErrOver, ErrOut or ErrBusy, turns nothing; the model stays in order. -/
theorem apply_ok {s s' : Ms} (k : s.Ok) (e : Ev) (hm : s.may e = true) (h : s.apply e = some s') : s'.Ok ∧ (e.err = 9 ∨ e.err = 10 ∨ e.err = 14 ∨ e.err = 11 → s' = s) := by
  have same : ∀ {x : Ms}, some x = some s' → x = s → s'.Ok ∧ (e.err = 9 ∨ e.err = 10 ∨ e.err = 14 ∨ e.err = 11 → s' = s) := by
    intro x hx e1
    simp only [Option.some.injEq] at hx
    subst hx; subst e1; exact ⟨k, fun _ => rfl⟩
  have mons : ∀ {m : List Mo} {f : List Bool}, s' = { s with mons := m, flags := f } → m.length = s.mons.length → f.length = s.flags.length → s'.Ok := by
    intro m f e l1 l2; subst e; exact ⟨⟨k.once.w, k.once.l⟩, k.why, by rw [l1]; exact k.nm, by rw [l2]; exact k.nf, k.rw, k.rl⟩
  have lo : ∀ (o : Int) (m : Mo), (s.setMon o m).mons.length = s.mons.length := fun o m => by simp [Ms.setMon]
  have lf : ∀ (t : Int) (b : Bool), (s.setFlag t b).flags.length = s.flags.length := fun t b => by simp [Ms.setFlag]
  have rng : (0 ≤ e.obj ∧ e.obj < 8) ∧ (0 ≤ e.thread ∧ e.thread < 8) := by
    have h1 := k.nm
    have h2 := k.nf
    simp only [Ms.may, Ms.isThread, Ms.isObj, Bool.and_eq_true, decide_eq_true_eq] at hm
    omega
  unfold Ms.apply at h
  split at h
  · split at h
    · unfold Ms.enter at h
      split at h
      · rename_i he
        split at h
        · cases h
        · simp only [Option.some.injEq] at h
          exact ⟨mons (f := s.flags) h.symm (lo _ _) rfl, fun hx => by omega⟩
      · split at h
        · split at h
          · exact same h rfl
          · cases h
        split at h
        · split at h
          · exact same h rfl
          · cases h
        split at h
        · split at h
          · exact same h rfl
          · cases h
        · cases h
    · cases h
  split at h
  · split at h
    · unfold Ms.exit at h
      split at h
      · split at h
        · cases h
        · exact same h rfl
      · rename_i he
        split at h
        · cases h
        · rename_i hb
          have h0 : e.err = 0 := by simp at hb; exact hb.1
          simp only [Option.some.injEq] at h
          exact ⟨mons (f := s.flags) h.symm (lo _ _) rfl, fun hx => by omega⟩
    · cases h
  split at h
  · split at h
    · unfold Ms.begin at h
      split at h
      · split at h
        · cases h
        · exact same h rfl
      split at h
      · split at h
        · exact same h rfl
        · cases h
      split at h
      · rename_i he
        split at h
        · simp only [Option.some.injEq] at h
          exact ⟨mons (m := s.mons) h.symm rfl (lf _ _), fun hx => by omega⟩
        · cases h
      split at h
      · rename_i he
        split at h
        · simp only [Option.some.injEq] at h
          subst h
          exact ⟨⟨⟨Pl.once_put k.once.w _ _ _, k.once.l⟩, k.why, by rw [lo]; exact k.nm, k.nf, inRng_put k.rw rng.1 rng.2, k.rl⟩, fun hx => by omega⟩
        · cases h
      · cases h
    · cases h
  split at h
  · split at h
    · rename_i hb
      simp only [Bool.and_eq_true, Bool.or_eq_true, beq_iff_eq] at hb
      have hw : e.err = 12 ∨ e.err = 13 := by rcases hb.2 with h | h; exact .inr h; exact .inl h.1
      exact ⟨ok_leave k (.inr hw) h, fun hx => by omega⟩
    · cases h
  split at h
  · split at h
    · unfold Ms.fin at h
      cases hf : s.left.find e.obj e.thread with
      | none => rw [hf] at h; cases h
      | some l =>
        rw [hf] at h
        simp only [] at h
        split at h
        · cases h
        · rename_i hb
          have he : l.2 = e.err := by simp at hb; exact hb.2
          obtain ⟨p, hp, hl⟩ := Pl.find_in hf
          have hw := k.why p hp
          rw [hl, he] at hw
          simp only [Option.some.injEq] at h
          have ok1 : whyOk (s.left.del e.obj e.thread) := fun q hq => k.why q ((Pl.del_sub _ _ _).subset hq)
          refine ⟨?_, fun hx => by omega⟩
          subst h
          split
          · exact ⟨⟨k.once.w, Pl.once_del k.once.l _ _⟩, ok1, by simp [Ms.setFlag, Ms.setMon]; exact k.nm, by simp [Ms.setFlag, Ms.setMon]; exact k.nf, k.rw, inRng_del k.rl⟩
          · exact ⟨⟨k.once.w, Pl.once_del k.once.l _ _⟩, ok1, by simp [Ms.setMon]; exact k.nm, k.nf, k.rw, inRng_del k.rl⟩
    · cases h
  split at h
  · unfold Ms.tell at h
    split at h
    · split at h
      · rename_i hb
        simp only [Bool.and_eq_true, beq_iff_eq] at hb
        exact ⟨ok_leave k (.inl rfl) h, fun hx => by omega⟩
      · cases h
    split at h
    · split at h
      · exact same h rfl
      · cases h
    split at h
    · cases h
    split at h
    · split at h
      · exact same h rfl
      · cases h
    · split at h
      · exact same h rfl
      · cases h
  split at h
  · unfold Ms.hash at h
    split at h
    · split at h
      · exact same h rfl
      · cases h
    · split at h
      · cases h
      · rename_i hb
        have h0 : e.err = 0 := by simp at hb; exact hb.1.1
        simp only [Option.some.injEq] at h
        exact ⟨mons (f := s.flags) h.symm (lo _ _) rfl, fun hx => by omega⟩
  split at h
  · unfold Ms.holds at h
    split at h
    · exact same h rfl
    · cases h
  split at h
  · split at h
    · cases h
    · rename_i hb
      have h0 : e.err = 0 := by simp at hb; exact hb.1
      simp only [Option.some.injEq] at h
      exact ⟨mons (m := s.mons) h.symm rfl (lf _ _), fun hx => by omega⟩
  · cases h

theorem next_ok {s : Ms} (k : s.Ok) (e : Ev) : (s.next e).Ok := by
  unfold Ms.next Ms.step
  split
  · rename_i hm
    cases h : s.apply e with
    | none => exact k
    | some s' => exact (apply_ok k e hm h).1
  · exact k
theorem next_still {s : Ms} (k : s.Ok) (e : Ev) (h : s.code e ≠ 0 ∨ e.err = 9 ∨ e.err = 10 ∨ e.err = 14 ∨ e.err = 11) : s.next e = s := by
  unfold Ms.code at h
  unfold Ms.next Ms.step at *
  split
  · rename_i hm
    rw [if_pos hm] at h
    cases ha : s.apply e with
    | none => rfl
    | some s' =>
      rw [ha] at h
      rcases h with h | h
      · exact absurd rfl h
      · exact (apply_ok k e hm ha).2 h
  · rfl
theorem new_ok (t o c : Int) (ht : t ≤ 8) (ho : o ≤ 8) : (Ms.new t o c).Ok := ⟨⟨by simp [Ms.new, Pl.Once], by simp [Ms.new, Pl.Once]⟩, by simp [Ms.new, whyOk], by simp [Ms.new]; omega, by simp [Ms.new]; omega, by simp [Ms.new, inRng], by simp [Ms.new, inRng]⟩

/-- An interrupted Begin turns the flag alone. -/
theorem begin_intr {s : Ms} {e : Ev} (hc : s.code e = 0) (hk : e.kind = 4) (he : e.err = 12) : s.isThread e.thread = true ∧ s.flag e.thread = true ∧ s.next e = s.setFlag e.thread false := by
  unfold Ms.code at hc
  unfold Ms.next
  cases hs : s.step e with
  | none => rw [hs] at hc; simp at hc
  | some s' =>
    have hs' := hs
    unfold Ms.step at hs
    split at hs
    · rename_i hm
      have hth : s.isThread e.thread = true := by
        simp only [Ms.may, Bool.and_eq_true] at hm; exact hm.1.1
      unfold Ms.apply at hs
      rw [if_neg (by omega), if_neg (by omega), if_pos hk] at hs
      split at hs
      · unfold Ms.begin at hs
        rw [if_neg (by omega), if_neg (by omega), if_pos he] at hs
        split at hs
        · rename_i hb
          simp only [Bool.and_eq_true] at hb
          simp only [Option.some.injEq] at hs
          exact ⟨hth, hb.2, by simp [hs]⟩
        · cases hs
      · cases hs
    · cases hs

end Go.Md
