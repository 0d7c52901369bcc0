/-
  Calls that come in.
-/
import Derived.Test.YtnnedfhpicdacaaC10
import Derived.Test.YtnnedfhpicdacaaSx16
set_option linter.unusedSimpArgs false
set_option linter.unusedVariables false
namespace Go.Ck
open Go Go.Sx Go.Md Go.Proofs Go.Proofs.Ytnnedfhpicdacaa

def clOf (ns : List Int) : Cl := ⟨⟨ns.getD 0 0, ns.getD 1 0, ns.getD 2 0, ns.getD 3 0, ns.getD 4 0⟩, ns.getD 5 0, ns.getD 6 0⟩
theorem clL_of {ns : List Int} (h : ns.length = 7) : clL (clOf ns) = ns.map (Value.int .i64) := by
  match ns, h with
  | [a, b, c, d, e, f, g], _ => rfl
theorem clsAt_of {h : PH} {a : Option Addr} {rows : List (List Int)} (hl : ∀ ns ∈ rows, ns.length = 7) (hr : ∀ i ns, rows[i]? = some ns → ∃ b, a = some b ∧ ∀ j, j < 7 → h.cell ((b.add (i * 7)).add j) = ns[j]?.map (Value.int .i64)) : ClsAt h a (rows.map clOf) := by
  refine ⟨fun i e he => ?_⟩
  rw [List.getElem?_map] at he
  cases hi : rows[i]? with
  | none => rw [hi] at he; cases he
  | some ns =>
    rw [hi] at he
    simp only [Option.map_some, Option.some.injEq] at he
    obtain ⟨b, hb, hc⟩ := hr i ns hi
    have l7 := hl ns (List.mem_of_getElem? hi)
    subst he
    refine ⟨b, hb, fun j v hv => ?_⟩
    rw [clL_of l7, List.getElem?_map] at hv
    have hj : j < 7 := by
      rw [← l7]
      cases hx : ns[j]? with
      | none => rw [hx] at hv; cases hv
      | some x => exact (List.getElem?_eq_some_iff.1 hx).1
    rw [hc j hj]; exact hv

end Go.Ck
