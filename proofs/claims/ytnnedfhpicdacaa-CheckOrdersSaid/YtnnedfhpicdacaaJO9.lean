/-
  SX, part 16: slices that come in, of rows of integers.
-/
import Derived.ChangeArms
import Derived.WideShapes
import Derived.Test.YtnnedfhpicdacaaJO5
import Derived.Test.YtnnedfhpicdacaaJO8

namespace Go.Sx
open Go Go.RowKit

theorem whole_cell (w : World) (a : Addr) : (whole w).cell a = w.cell? a := by
  unfold PH.cell World.cell? whole
  cases w.heap[a.block]? with
  | none => rfl
  | some O => cases O <;> rfl

theorem Plains.ints {k : IntKind} : ∀ {n : Nat} {r : List Value}, Plains (List.replicate n (.int k)) r → ∃ ns : List Int, ns.length = n ∧ r = ns.map (Value.int k) ∧ ∀ x ∈ ns, (Lit.int k x).wf = true := by
  intro n
  induction n with
  | zero => intro r h; exact ⟨[], rfl, by rw [h.done]; rfl, by simp⟩
  | succ n ih =>
    intro r h
    rw [List.replicate_succ] at h
    obtain ⟨x, r', rfl, hw, h⟩ := h.int
    obtain ⟨ns, h1, h2, h3⟩ := ih h
    exact ⟨x :: ns, by simp [h1], by simp [h2], by simpa using ⟨hw, h3⟩⟩

theorem cells?_get {w : World} {base : Nat} {a : Addr} {n : Nat} {cs : List Value} (h : w.cells? base a n = some cs) : cs.length = n ∧ ∀ j, j < n → w.cell? (a.add j) = cs[j]? := by
  unfold World.cells? at h
  split at h
  · have key : ∀ (m s : Nat) (cs : List Value), (List.range' s m).mapM (fun i => w.cell? (a.add i)) = some cs → cs.length = m ∧ ∀ j, j < m → w.cell? (a.add (s + j)) = cs[j]? := by
      intro m
      induction m with
      | zero => intro s cs h; simp at h; subst h; simp
      | succ m ih =>
        intro s cs h
        rw [List.range'_succ, List.mapM_cons] at h
        cases h1 : w.cell? (a.add s) with
        | none => rw [h1] at h; cases h
        | some v =>
          rw [h1] at h
          cases h2 : (List.range' (s + 1) m).mapM (fun i => w.cell? (a.add i)) with
          | none => rw [h2] at h; cases h
          | some vs =>
            rw [h2] at h
            cases h
            obtain ⟨e1, e2⟩ := ih (s + 1) vs h2
            refine ⟨by simp [e1], fun j hj => ?_⟩
            cases j with
            | zero => simpa using h1
            | succ j =>
              have := e2 j (by omega)
              rw [show s + 1 + j = s + (j + 1) from by omega] at this
              simpa using this
    rw [List.range_eq_range'] at h
    have := key n 0 cs h
    simpa using this
  · cases h

/-- A slice of rows of integers that comes in. -/
theorem rows_arg {H : Type} {enc : TypeId × Value → H} {P : Program} {w : World} {base base' : Nat} {spare : Nat → Bool} {held : Bool} {t e : TypeId} {v : Value} {d : DataW H} {ps : List MemPlace} {kd : IntKind} {k : Nat} (n : Nat)
    (ht : P.underlying t = some (.slice e)) (hl : plainCells P n e = some (List.replicate k (.int kd))) (hz : P.cellsOf e = k) (ho : Value.okWide P w .any base' t v) (h : DataW.Trod enc P w base spare held t v d ps) :
    ∃ (a : Option Addr) (m c : Nat) (rows : List (List Int)), v = .slice a m c ∧ m ≤ c ∧ c ≤ maxLen ∧ rows.length = m ∧ (∀ ns ∈ rows, ns.length = k ∧ ∀ x ∈ ns, (Lit.int kd x).wf = true) ∧
      ∀ i ns, rows[i]? = some ns → ∃ b, a = some b ∧ ∀ j, j < k → (whole w).cell ((b.add (i * k)).add j) = ns[j]?.map (Value.int kd) := by
  have key : ∃ a m c, v = .slice a m c := by
    simp only [Value.okWide, ht, Cell.okWide] at ho
    cases v <;> simp_all [Cell.ok]
  obtain ⟨a, m, c, rfl⟩ := key
  obtain ⟨fuel, hf⟩ := h
  rcases DataW.trod_slice ht hf with ⟨hc, _⟩ | ⟨b, len, cap, elems, rest, n1, rfl, hc, hx, hb, hle, hcap, hlen, hat, _, _⟩
  · simp only [Value.cells, List.cons.injEq, and_true] at hc
    injection hc with e1 e2 e3
    subst e1; subst e2; subst e3
    exact ⟨none, 0, 0, [], rfl, Nat.le_refl _, Nat.zero_le _, rfl, by simp, by simp⟩
  · simp only [Value.cells, List.cons.injEq, and_true] at hc
    injection hc with e1 e2 e3
    subst e1; subst e2; subst e3
    have each : ∀ i, i < m → ∃ ns : List Int, (ns.length = k ∧ ∀ x ∈ ns, (Lit.int kd x).wf = true) ∧ ∀ j, j < k → (whole w).cell ((b.add (i * k)).add j) = ns[j]?.map (Value.int kd) := by
      intro i hi
      have := hat i hi
      rw [List.getElem?_eq_getElem (by omega), hz] at this
      cases hcs : w.cells? base (b.add (i * k)) k with
      | none => rw [hcs] at this; cases this
      | some cs =>
        rw [hcs] at this
        obtain ⟨ns, h1, h2, h3⟩ := (plains_trod n _ e cs _ _ hl this).ints
        refine ⟨ns, ⟨h1, h3⟩, fun j hj => ?_⟩
        rw [whole_cell, (cells?_get hcs).2 j hj, h2]
        simp
    have all : ∀ q, q ≤ m → ∃ rows : List (List Int), rows.length = q ∧ (∀ ns ∈ rows, ns.length = k ∧ ∀ x ∈ ns, (Lit.int kd x).wf = true) ∧ ∀ i ns, rows[i]? = some ns → ∀ j, j < k → (whole w).cell ((b.add (i * k)).add j) = ns[j]?.map (Value.int kd) := by
      intro q
      induction q with
      | zero => intro _; exact ⟨[], rfl, by simp, by simp⟩
      | succ q ih =>
        intro hq
        obtain ⟨rows, r1, r2, r3⟩ := ih (by omega)
        obtain ⟨ns, n1, n2⟩ := each q (by omega)
        refine ⟨rows ++ [ns], by simp [r1], ?_, ?_⟩
        · intro x hx
          rcases List.mem_append.1 hx with h | h
          · exact r2 x h
          · simp at h; subst h; exact n1
        · intro i x hx
          by_cases hi : i < rows.length
          · rw [List.getElem?_append_left hi] at hx; exact r3 i x hx
          · rw [List.getElem?_append_right (by omega)] at hx
            have hi' : i = q := by
              have := (List.getElem?_eq_some_iff.1 hx).1
              simp at this; omega
            subst hi'
            rw [r1] at hx
            simp at hx
            subst hx
            exact n2
    obtain ⟨rows, r1, r2, r3⟩ := all m (Nat.le_refl _)
    exact ⟨some b, m, c, rows, rfl, hle, hcap, r1, r2, fun i ns hx => ⟨b, rfl, r3 i ns hx⟩⟩

end Go.Sx

/-
  Calls that come in.
-/
set_option linter.unusedSimpArgs false
set_option linter.unusedVariables false
namespace Go.Ck
open Go Go.Sx Go.Md Go.Proofs Go.Proofs.Ytnnedfhpicdacaa

def clOf (ns : List Int) : Cl := ⟨⟨ns.getD 0 0, ns.getD 1 0, ns.getD 2 0, ns.getD 3 0, ns.getD 4 0⟩, ns.getD 5 0, ns.getD 6 0⟩
theorem clL_of {ns : List Int} (h : ns.length = 7) : clL (clOf ns) = ns.map (Value.int .i64) := by
  match ns, h with
  | [a, b, c, d, e, f, g], _ => rfl
theorem clsAt_of {h : PH} {a : Option Addr} {rows : List (List Int)} (hl : ∀ ns ∈ rows, ns.length = 7) (hr : ∀ i ns, rows[i]? = some ns → ∃ b, a = some b ∧ ∀ j, j < 7 → h.cell ((b.add (i * 7)).add j) = ns[j]?.map (Value.int .i64)) : ClsAt h a (rows.map clOf) := by
  refine ⟨fun i e he => ?_⟩
  rw [List.getElem?_map] at he
  cases hi : rows[i]? with
  | none => rw [hi] at he; cases he
  | some ns =>
    rw [hi] at he
    simp only [Option.map_some, Option.some.injEq] at he
    obtain ⟨b, hb, hc⟩ := hr i ns hi
    have l7 := hl ns (List.mem_of_getElem? hi)
    subst he
    refine ⟨b, hb, fun j v hv => ?_⟩
    rw [clL_of l7, List.getElem?_map] at hv
    have hj : j < 7 := by
      rw [← l7]
      cases hx : ns[j]? with
      | none => rw [hx] at hv; cases hv
      | some x => exact (List.getElem?_eq_some_iff.1 hx).1
    rw [hc j hj]; exact hv

end Go.Ck
