/-
  SX, part 10: structs of integers, one in another one, are compared.
-/
import Derived.Test.YtnnedfhpicdacaaSx9
import Derived.Laws.StructEq
namespace Go.Sx
open Go

mutual
/-- How many cells, all integers, a type has. -/
def intCells (P : Program) : Nat → TypeId → Option Nat
  | 0, _ => none
  | d + 1, t =>
    match P.underlying t with
    | some (.int _) => some 1
    | some (.struct fs) => (match P.stoodInHeld t with
      | true => none
      | false => (match intFlds P d fs.toList 0 with
        | some n => if Nat.beq (P.cellsOf t) n && !Nat.beq n 0 then some n else none
        | none => none))
    | _ => none
def intFlds (P : Program) : Nat → List Field → Nat → Option Nat
  | _, [], o => some o
  | 0, _ :: _, _ => none
  | d + 1, f :: fs, o =>
    if f.name != "_" && Nat.beq f.offset o then (match intCells P d f.type with | some n => intFlds P d fs (o + n) | none => none) else none
end

/-- Both have integers there, of the same kind. -/
def bothInt (xs ys : Array Value) (off n : Nat) : Prop := ∀ i, i < n → ∃ k a b, xs[off + i]? = some (.int k a) ∧ ys[off + i]? = some (.int k b)
def sameAt (xs ys : Array Value) (off n : Nat) : Prop := ∀ i, i < n → xs[off + i]? = ys[off + i]?

def EqT (P : Program) (d : Nat) (t : TypeId) (n : Nat) : Prop := ∀ (D : Nat) (xs ys : Array Value) (off : Nat), bothInt xs ys off n →
  ∃ va vb r, (∀ w, (part t xs off).run P w = .ok va w) ∧ (∀ w, (part t ys off).run P w = .ok vb w) ∧ (∀ w, (Op.equalIn (d + D) t va vb).run P w = .ok r w) ∧ (r = true ↔ sameAt xs ys off n)

theorem eqFlds {P : Program} {d : Nat} (IH : ∀ d' t n, d' ≤ d → intCells P d' t = some n → EqT P d' t n) : ∀ (dd : Nat) (fs : List Field) (o n : Nat), dd ≤ d + 1 → intFlds P dd fs o = some n → ∀ (D : Nat) (xs ys : Array Value), d ≤ D → bothInt xs ys o (n - o) → o ≤ n ∧
    ∃ r, (∀ w, (Op.eqFields D xs ys fs).run P w = .ok r w) ∧ (r = true ↔ sameAt xs ys o (n - o)) := by
  intro dd fs
  induction fs generalizing dd with
  | nil =>
    intro o n _ h D xs ys _ _
    cases dd <;> simp only [intFlds, Option.some.injEq] at h <;> subst h <;> exact ⟨Nat.le_refl _, true, fun w => rfl, by simp [sameAt]⟩
  | cons f fs ih =>
    intro o n hdd h D xs ys hD hb
    cases dd with
    | zero => simp [intFlds] at h
    | succ dd =>
      unfold intFlds at h
      split at h
      · rename_i hf
        simp only [Bool.and_eq_true, bne_iff_ne, ne_eq] at hf
        obtain ⟨hn, ho⟩ := hf
        have ho := Nat.eq_of_beq_eq_true ho
        cases hc : intCells P dd f.type with
        | none => rw [hc] at h; cases h
        | some m =>
          rw [hc] at h
          simp only [] at h
          -- how far it goes
          have far : o + m ≤ n := by
            clear ih hb
            have : ∀ (dd : Nat) (fs : List Field) (o n : Nat), intFlds P dd fs o = some n → o ≤ n := by
              intro dd fs
              induction fs generalizing dd with
              | nil => intro o n h; cases dd <;> simp only [intFlds, Option.some.injEq] at h <;> omega
              | cons f fs ih =>
                intro o n h
                cases dd with
                | zero => simp [intFlds] at h
                | succ dd =>
                  unfold intFlds at h
                  split at h
                  · cases hc : intCells P dd f.type with
                    | none => rw [hc] at h; cases h
                    | some m => rw [hc] at h; have := ih _ _ _ h; omega
                  · cases h
            exact this _ _ _ _ h
          obtain ⟨va, vb, r1, p1, p2, p3, hiff⟩ := IH dd f.type m (by omega) hc (D - dd) xs ys o (fun i hi => hb i (by omega))
          rw [show dd + (D - dd) = D from by omega] at p3
          obtain ⟨_, r2, q, hiff2⟩ := ih dd (o + m) n (by omega) h D xs ys hD (fun i hi => by have := hb (m + i) (by omega); simpa [Nat.add_assoc] using this)
          refine ⟨by omega, r1 && r2, fun w => ?_, ?_⟩
          · unfold Op.eqFields
            rw [if_pos hn, Sem.run_bind, ho, p1]
            simp only [Result.andThen_ok]
            rw [Sem.run_bind, p2]
            simp only [Result.andThen_ok]
            rw [Sem.run_bind, p3]
            simp only [Result.andThen_ok]
            cases r1
            · simp
            · simp only [Bool.not_true, Bool.false_eq_true, if_false, Bool.true_and]
              exact q w
          · rw [Bool.and_eq_true, hiff, hiff2]
            constructor
            · rintro ⟨a, b⟩ i hi
              by_cases him : i < m
              · exact a i him
              · have := b (i - m) (by omega)
                rw [show o + m + (i - m) = o + i from by omega] at this
                exact this
            · intro a
              exact ⟨fun i hi => a i (by omega), fun i hi => by have := a (m + i) (by omega); simpa [Nat.add_assoc] using this⟩
      · cases h

theorem eqT {P : Program} : ∀ (d : Nat) (t : TypeId) (n : Nat), intCells P d t = some n → EqT P d t n := by
  intro d
  induction d using Nat.strongRecOn with
  | _ d IH =>
    intro t n h
    cases d with
    | zero => simp [intCells] at h
    | succ d =>
      unfold intCells at h
      cases hu : P.underlying t with
      | none => rw [hu] at h; cases h
      | some k =>
        rw [hu] at h
        cases k <;> simp only [reduceCtorEq] at h
        case int k =>
          simp only [Option.some.injEq] at h
          subst h
          intro D xs ys off hb
          obtain ⟨k', a, b, hx, hy⟩ := hb 0 (by omega)
          refine ⟨.int k' a, .int k' b, a == b, fun w => ?_, fun w => ?_, fun w => ?_, ?_⟩
          · unfold part isAgg; simp at hx; simp [run_underlying hu, hx]
          · unfold part isAgg; simp at hy; simp [run_underlying hu, hy]
          · rw [show d + 1 + D = (d + D) + 1 from by omega]; exact run_equalIn_int w _ t k' k a b hu
          · simp only [beq_iff_eq]
            constructor
            · rintro rfl i hi
              have : i = 0 := by omega
              subst this; rw [hx, hy]
            · intro hs
              have := hs 0 (by omega)
              rw [hx, hy] at this
              simpa using this
        case struct fs =>
          cases hp : P.stoodInHeld t with
          | true => rw [hp] at h; cases h
          | false =>
            rw [hp] at h
            simp only [] at h
            cases hf : intFlds P d fs.toList 0 with
            | none => rw [hf] at h; cases h
            | some m =>
              rw [hf] at h
              simp only [] at h
              split at h
              · rename_i hsz
                simp only [Option.some.injEq] at h
                subst h
                simp only [Bool.and_eq_true, Bool.not_eq_true'] at hsz
                have hcz := Nat.eq_of_beq_eq_true hsz.1
                have hm0 : m ≠ 0 := fun e => by subst e; simp at hsz
                intro D xs ys off hb
                have hz : P.cellsOf t ≠ 0 := by rw [hcz]; exact hm0
                have prt : ∀ zs : Array Value, ∀ w, (part t zs off).run P w = .ok (.agg (zs.extract off (off + m))) w := by
                  intro zs w
                  have h1 := reads_sizeOf (P := P) (h := fun _ => none) (cellsOf_info hz) w w ⟨Quiet.refl w, fun _ _ x => by cases x⟩
                  unfold part isAgg
                  simp only [Sem.run_bind, run_underlying hu, Result.andThen_ok, Sem.run_pure, if_true]
                  rw [h1, hcz]; rfl
                have ext : ∀ zs : Array Value, off + m ≤ zs.size → ∀ i, i < m → (zs.extract off (off + m))[i]? = zs[off + i]? := by
                  intro zs hl i hi
                  rw [Array.getElem?_extract, if_pos (by omega)]
                have szx : off + m ≤ xs.size ∧ off + m ≤ ys.size := by
                  obtain ⟨_, _, _, hx, hy⟩ := hb (m - 1) (by omega)
                  have h1 := (Array.getElem?_eq_some_iff.1 hx).1
                  have h2 := (Array.getElem?_eq_some_iff.1 hy).1
                  omega
                have hb' : bothInt (xs.extract off (off + m)) (ys.extract off (off + m)) 0 (m - 0) := by
                  intro i hi
                  obtain ⟨k, a, b, hx, hy⟩ := hb i (by omega)
                  exact ⟨k, a, b, by rw [Nat.zero_add, ext xs szx.1 i (by omega)]; exact hx, by rw [Nat.zero_add, ext ys szx.2 i (by omega)]; exact hy⟩
                have hF : P.fieldsOf t = fs := by simp [Program.fieldsOf, hu]
                obtain ⟨_, r, q, hiff⟩ := eqFlds (P := P) (d := d) (fun d' t n hd' hc => IH d' (by omega) t n hc) d fs.toList 0 m (by omega) hf (d + D) _ _ (by omega) hb'
                refine ⟨_, _, r, prt xs, prt ys, fun w => ?_, ?_⟩
                · rw [show d + 1 + D = (d + D) + 1 from by omega, run_equalIn_agg w _ t _ _ (by rw [hF]; exact hu) hp, hF]
                  exact q w
                · rw [hiff]
                  constructor
                  · intro a i hi
                    have := a i (by omega)
                    rw [Nat.zero_add, ext xs szx.1 i (by omega), ext ys szx.2 i (by omega)] at this
                    exact this
                  · intro a i hi
                    rw [Nat.zero_add, ext xs szx.1 i (by omega), ext ys szx.2 i (by omega)]
                    exact a i (by omega)
              · cases h

/-- Two rows of integers of a struct's type. -/
theorem eqLaw_deep {P : Program} {t : TypeId} {n d : Nat} {xs ys : Array Value} (h : ((match intCells P d t with | some m => Nat.beq m n | none => false) && (match P.underlying t with | some (.struct _) => true | _ => false) && !P.eqGuardType P.depth t && Nat.ble d 10000) = true) (hx : xs.size = n) (hy : ys.size = n) (hb : bothInt xs ys 0 n) :
    ∃ r, EqLaw P t (.agg xs) (.agg ys) r ∧ (r = true ↔ xs = ys) := by
  simp only [Bool.and_eq_true, Bool.not_eq_true'] at h
  obtain ⟨⟨⟨h1, h2⟩, h3⟩, h4⟩ := h
  cases hc : intCells P d t with
  | none => rw [hc] at h1; cases h1
  | some m =>
    rw [hc] at h1
    have hm := Nat.eq_of_beq_eq_true h1
    subst hm
    have h4 := Nat.le_of_ble_eq_true h4
    obtain ⟨va, vb, r, p1, p2, p3, hiff⟩ := eqT d t m hc (10000 - d) xs ys 0 hb
    rw [show d + (10000 - d) = 10000 from by omega] at p3
    -- what stands there is all of it
    have cells : m = P.cellsOf t ∧ m ≠ 0 := by
      cases d with
      | zero => simp [intCells] at hc
      | succ d =>
        unfold intCells at hc
        cases hu : P.underlying t with
        | none => rw [hu] at h2; cases h2
        | some k =>
          rw [hu] at hc h2
          cases k <;> simp only [Bool.false_eq_true] at h2 hc
          cases hp : P.stoodInHeld t with
          | true => rw [hp] at hc; cases hc
          | false =>
            rw [hp] at hc
            simp only [] at hc
            split at hc
            · split at hc
              · rename_i hsz
                simp only [Option.some.injEq] at hc
                subst hc
                simp only [Bool.and_eq_true, Bool.not_eq_true'] at hsz
                exact ⟨(Nat.eq_of_beq_eq_true hsz.1).symm, fun e => by subst e; simp at hsz⟩
              · cases hc
            · cases hc
    have whole : ∀ (zs : Array Value) (v : Value), zs.size = m → (∀ w, (part t zs 0).run P w = .ok v w) → v = .agg zs := by
      intro zs v hs hp
      have w : World := default
      have h1 := reads_sizeOf (P := P) (h := fun _ => none) (cellsOf_info (t := t) (by rw [← cells.1]; exact cells.2)) w w ⟨Quiet.refl w, fun _ _ x => by cases x⟩
      have := hp w
      cases hu : P.underlying t with
      | none => rw [hu] at h2; cases h2
      | some k =>
        rw [hu] at h2
        cases k <;> simp only [Bool.false_eq_true] at h2
        unfold part isAgg at this
        simp only [Sem.run_bind, run_underlying hu, Result.andThen_ok, Sem.run_pure, if_true] at this
        rw [h1, ← cells.1] at this
        simp only [Result.andThen_ok, Result.ok.injEq, and_true] at this
        rw [← this]; congr 1
        apply Array.ext (by simp [hs])
        intro i h1 h2
        simp
    have e1 := whole xs va hx p1
    have e2 := whole ys vb hy p2
    subst e1; subst e2
    refine ⟨r, ⟨h3, p3⟩, ?_⟩
    rw [hiff]
    constructor
    · intro a
      apply Array.ext (by omega)
      intro i h1 h2
      have := a i (by omega)
      simpa [h1, h2] using this
    · rintro rfl i hi; rfl

end Go.Sx
