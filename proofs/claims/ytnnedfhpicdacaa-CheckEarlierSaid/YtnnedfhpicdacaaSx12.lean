/-
  SX, part 12: what comes in: rows of plain cells, out of a reading.
-/
import Derived.Test.YtnnedfhpicdacaaSx11
import Derived.ChangeSlices
import Derived.ChangeShapes
import Derived.Below
namespace Go.Sx
open Go Go.RowKit

mutual
/-- A type's cells, all plain: integers, bools, strings. -/
def plainCells (P : Program) : Nat → TypeId → Option (List At)
  | 0, _ => none
  | d + 1, t =>
    match P.underlying t with
    | some (.int k) => some [.int k]
    | some .bool => some [.bool]
    | some .string => some [.str]
    | some (.struct fs) => (match plainFlds P d fs.toList 0 with
      | some l => if Nat.beq (P.cellsOf t) l.length then some l else none
      | none => none)
    | some (.array n e) => (match plainCells P d e with
      | some l => if Nat.beq (P.cellsOf e) l.length && Nat.beq (P.cellsOf t) (n * l.length) then some (List.replicate n l).flatten else none
      | none => none)
    | _ => none
def plainFlds (P : Program) : Nat → List Field → Nat → Option (List At)
  | _, [], _ => some []
  | 0, _ :: _, _ => none
  | d + 1, f :: fs, o =>
    if Nat.beq f.offset o then (match plainCells P d f.type with
      | some l => if Nat.beq (P.cellsOf f.type) l.length then (match plainFlds P d fs (o + l.length) with | some r => some (l ++ r) | none => none) else none
      | none => none)
    else none
end

def PlainV : At → Value → Prop
  | .int k, v => ∃ n, v = .int k n ∧ (Lit.int k n).wf = true
  | .bool, v => ∃ b, v = .bool b
  | .str, v => ∃ s, v = .string s ∧ s.size ≤ maxLen
  | _, _ => False
/-- Cells of these kinds, one behind the other. -/
inductive Plains : List At → List Value → Prop
  | nil : Plains [] []
  | cons {a v l r} (h : PlainV a v) (t : Plains l r) : Plains (a :: l) (v :: r)
theorem Plains.append {l l' : List At} {r r' : List Value} (h : Plains l r) (h' : Plains l' r') : Plains (l ++ l') (r ++ r') := by
  induction h with
  | nil => exact h'
  | cons h _ ih => exact .cons h ih
theorem Plains.len {l : List At} {r : List Value} (h : Plains l r) : r.length = l.length := by
  induction h with
  | nil => rfl
  | cons _ _ ih => simp [ih]

section
variable {H : Type} {enc : TypeId × Value → H} {P : Program} {w : World} {base : Nat} {spare : Nat → Bool} {held : Bool}

theorem plains_trod : ∀ (d fuel : Nat) (t : TypeId) (cs : List Value) (l : List At) (x : DataW H × List MemPlace), plainCells P d t = some l → DataW.trod enc P w base spare held fuel t cs = some x → Plains l cs := by
  intro d
  induction d using Nat.strongRecOn with
  | _ d IH =>
    intro fuel t cs l x hp h
    cases d with
    | zero => simp [plainCells] at hp
    | succ d =>
      cases fuel with
      | zero => simp [DataW.trod] at h
      | succ fuel =>
        unfold plainCells at hp
        cases hu : P.underlying t with
        | none => rw [hu] at hp; cases hp
        | some k =>
          rw [hu] at hp
          cases k <;> simp only [reduceCtorEq, Option.some.injEq] at hp
          case int k =>
            subst hp
            obtain ⟨n, rfl, _, hw⟩ := DataW.trod_int hu h
            exact .cons ⟨n, rfl, hw⟩ .nil
          case bool =>
            subst hp
            unfold DataW.trod at h
            simp only [hu] at h
            split at h
            all_goals first | cases h; done | skip
            all_goals simp_all
            all_goals exact .cons ⟨_, rfl⟩ .nil
          case string =>
            subst hp
            unfold DataW.trod at h
            simp only [hu] at h
            split at h
            all_goals first | cases h; done | skip
            all_goals simp_all
            all_goals exact .cons ⟨_, rfl, h.1⟩ .nil
          case struct fs =>
            cases hf : plainFlds P d fs.toList 0 with
            | none => rw [hf] at hp; cases hp
            | some l' =>
              rw [hf] at hp
              simp only [] at hp
              split at hp
              · rename_i hsz
                have hsz := Nat.eq_of_beq_eq_true hsz
                simp only [Option.some.injEq] at hp
                subst hp
                have h2 : cs.length = P.cellsOf t ∧ ∃ xs, fs.toList.mapM (fun f => DataW.trod enc P w base spare held fuel f.type ((cs.drop f.offset).take (P.cellsOf f.type))) = some xs := by
                  unfold DataW.trod at h
                  simp only [hu] at h
                  split at h
                  · rename_i hl
                    cases hm : fs.toList.mapM (fun f => DataW.trod enc P w base spare held fuel f.type ((cs.drop f.offset).take (P.cellsOf f.type))) with
                    | none => rw [hm] at h; cases h
                    | some xs => exact ⟨hl, xs, rfl⟩
                  · cases h
                obtain ⟨hl, xs, hm⟩ := h2
                have flds : ∀ (dd : Nat) (fs : List Field) (o : Nat) (r : List At) (xs : List (DataW H × List MemPlace)), dd ≤ d → plainFlds P dd fs o = some r → fs.mapM (fun f => DataW.trod enc P w base spare held fuel f.type ((cs.drop f.offset).take (P.cellsOf f.type))) = some xs → Plains r ((cs.drop o).take r.length) := by
                  intro dd fs
                  induction fs generalizing dd with
                  | nil =>
                    intro o r xs _ hr _
                    cases dd <;> simp only [plainFlds, Option.some.injEq] at hr <;> subst hr <;> simpa using Plains.nil
                  | cons f fs ih =>
                    intro o r xs hdd hr hx
                    cases dd with
                    | zero => simp [plainFlds] at hr
                    | succ dd =>
                      unfold plainFlds at hr
                      split at hr
                      · rename_i ho
                        have ho := Nat.eq_of_beq_eq_true ho
                        cases hc : plainCells P dd f.type with
                        | none => rw [hc] at hr; cases hr
                        | some l1 =>
                          rw [hc] at hr
                          simp only [] at hr
                          split at hr
                          · rename_i hz
                            have hz := Nat.eq_of_beq_eq_true hz
                            cases hq : plainFlds P dd fs (o + l1.length) with
                            | none => rw [hq] at hr; cases hr
                            | some r1 =>
                              rw [hq] at hr
                              simp only [Option.some.injEq] at hr
                              subst hr
                              rw [List.mapM_cons] at hx
                              cases h1 : DataW.trod enc P w base spare held fuel f.type ((cs.drop f.offset).take (P.cellsOf f.type)) with
                              | none => rw [h1] at hx; cases hx
                              | some y =>
                                rw [h1] at hx
                                cases h2 : fs.mapM (fun f => DataW.trod enc P w base spare held fuel f.type ((cs.drop f.offset).take (P.cellsOf f.type))) with
                                | none => rw [h2] at hx; cases hx
                                | some ys =>
                                  have a := IH dd (by omega) fuel f.type _ _ y hc h1
                                  rw [ho, hz] at a
                                  have b := ih dd (o + l1.length) r1 ys (by omega) hq h2
                                  have := a.append b
                                  rw [List.length_append, List.take_add, List.drop_drop]
                                  exact this
                          · cases hr
                      · cases hr
                have := flds d fs.toList 0 l' xs (Nat.le_refl _) hf hm
                rw [List.drop_zero, ← hsz, ← hl, List.take_length] at this
                exact this
              · cases hp
          case array n e =>
            cases hf : plainCells P d e with
            | none => rw [hf] at hp; cases hp
            | some l' =>
              rw [hf] at hp
              simp only [] at hp
              split at hp
              · rename_i hsz
                simp only [Bool.and_eq_true] at hsz
                have hs1 := Nat.eq_of_beq_eq_true hsz.1
                have hs2 := Nat.eq_of_beq_eq_true hsz.2
                simp only [Option.some.injEq] at hp
                subst hp
                have h2 : cs.length = P.cellsOf t ∧ ∃ xs, (List.range n).mapM (fun i => DataW.trod enc P w base spare held fuel e ((cs.drop (i * P.cellsOf e)).take (P.cellsOf e))) = some xs := by
                  unfold DataW.trod at h
                  simp only [hu] at h
                  split at h
                  · rename_i hl
                    cases hm : (List.range n).mapM (fun i => DataW.trod enc P w base spare held fuel e ((cs.drop (i * P.cellsOf e)).take (P.cellsOf e))) with
                    | none => rw [hm] at h; cases h
                    | some xs => exact ⟨hl, xs, rfl⟩
                  · cases h
                obtain ⟨hl, xs, hm⟩ := h2
                have each : ∀ i, i < n → Plains l' ((cs.drop (i * l'.length)).take l'.length) := by
                  intro i hi
                  have : ∀ (is : List Nat) (xs : List (DataW H × List MemPlace)), is.mapM (fun i => DataW.trod enc P w base spare held fuel e ((cs.drop (i * P.cellsOf e)).take (P.cellsOf e))) = some xs → ∀ i ∈ is, ∃ y, DataW.trod enc P w base spare held fuel e ((cs.drop (i * P.cellsOf e)).take (P.cellsOf e)) = some y := by
                    intro is
                    induction is with
                    | nil => intro _ _ i hi; cases hi
                    | cons j is ih =>
                      intro xs hx i hi
                      rw [List.mapM_cons] at hx
                      cases h1 : DataW.trod enc P w base spare held fuel e ((cs.drop (j * P.cellsOf e)).take (P.cellsOf e)) with
                      | none => rw [h1] at hx; cases hx
                      | some y =>
                        rw [h1] at hx
                        cases h2 : is.mapM (fun i => DataW.trod enc P w base spare held fuel e ((cs.drop (i * P.cellsOf e)).take (P.cellsOf e))) with
                        | none => rw [h2] at hx; cases hx
                        | some ys =>
                          rcases List.mem_cons.1 hi with rfl | hi
                          · exact ⟨y, h1⟩
                          · exact ih ys h2 i hi
                  obtain ⟨y, hy⟩ := this _ _ hm i (by simpa using hi)
                  have := IH d (by omega) fuel e _ _ y hf hy
                  rw [hs1] at this
                  exact this
                have all : ∀ m, m ≤ n → Plains (List.replicate m l').flatten (cs.take (m * l'.length)) := by
                  intro m
                  induction m with
                  | zero => intro _; simpa using Plains.nil
                  | succ m ih =>
                    intro hm
                    rw [List.replicate_succ', List.flatten_append, Nat.add_mul, List.take_add, Nat.one_mul]
                    have := (ih (by omega)).append (each m (by omega))
                    simpa using this
                have := all n (Nat.le_refl _)
                rw [← hs2, ← hl, List.take_length] at this
                exact this
              · cases hp
end

/-- A struct that comes in. -/
theorem plains_arg {H : Type} {enc : TypeId × Value → H} {P : Program} {w : World} {base base' : Nat} {spare : Nat → Bool} {held : Bool} {t : TypeId} {v : Value} {d : DataW H} {ps : List MemPlace} {l : List At} (n : Nat)
    (hl : plainCells P n t = some l) (hs : (match P.underlying t with | some (.struct _) | some (.array _ _) => true | _ => false) = true) (ho : Value.okWide P w .any base' t v) (h : DataW.Trod enc P w base spare held t v d ps) : ∃ cs : Array Value, v = .agg cs ∧ Plains l cs.toList := by
  obtain ⟨fuel, hf⟩ := h
  have key : ∃ cs, v = .agg cs := by
    unfold Value.okWide at ho
    split at ho
    · obtain ⟨cs, e, _⟩ := ho; exact ⟨cs, e⟩
    · obtain ⟨cs, e, _⟩ := ho; exact ⟨cs, e⟩
    · rename_i h1 h2
      cases hu : P.underlying t with
      | none => rw [hu] at hs; cases hs
      | some k =>
        rw [hu] at hs
        cases k <;> simp only [Bool.false_eq_true] at hs
        · exact absurd hu (h2 _ _)
        · exact absurd hu (h1 _)
  obtain ⟨cs, rfl⟩ := key
  exact ⟨cs, rfl, plains_trod n fuel t cs.toList l _ hl hf⟩

theorem Plains.int {k : IntKind} {l : List At} {r : List Value} (h : Plains (.int k :: l) r) : ∃ n r', r = .int k n :: r' ∧ (Lit.int k n).wf = true ∧ Plains l r' := by
  cases h with
  | cons h t => obtain ⟨n, rfl, hw⟩ := h; exact ⟨n, _, rfl, hw, t⟩
theorem Plains.bool {l : List At} {r : List Value} (h : Plains (.bool :: l) r) : ∃ b r', r = .bool b :: r' ∧ Plains l r' := by
  cases h with
  | cons h t => obtain ⟨n, rfl⟩ := h; exact ⟨n, _, rfl, t⟩
theorem Plains.done {r : List Value} (h : Plains [] r) : r = [] := by cases h; rfl

/-- What is known of a world: all of it. -/
def whole (W : World) : PH := fun b => W.heap[b]?
/-- What a contract says to a row. -/
theorem below_of {P : Program} {f : FuncId} {args : Array Value} {W : World} {r : Value} (m : Meets P f args (whole W) fun v h' => v = r ∧ h' = whole W) : Calls P f args W fun e w' => e = .returned r ∧ Below W.heap.size W w' := by
  refine (m W W ⟨Quiet.refl W, fun b O h => h⟩).mono ?_
  rintro e w' ⟨v, h', rfl, st, rfl, rfl⟩
  have blk : ∀ k, k < W.heap.size → w'.heap[k]? = W.heap[k]? := by
    intro k hk
    have e1 : W.heap[k]? = some W.heap[k] := Array.getElem?_eq_getElem hk
    rw [e1]; exact st.sh k _ e1
  refine ⟨rfl, st.q.os, st.q.tape, st.q.output, ?_, blk⟩
  rcases Nat.eq_zero_or_pos W.heap.size with h0 | h0
  · omega
  · have := blk (W.heap.size - 1) (by omega)
    have e1 : W.heap[W.heap.size - 1]? = some (W.heap[W.heap.size - 1]'(by omega)) := Array.getElem?_eq_getElem (by omega)
    rw [e1] at this
    have := (Array.getElem?_eq_some_iff.1 this).1
    omega

end Go.Sx
