/-
  The statement CheckOrders is proved: whatever the input, it returns true, and the input reads as it did. Conditions: none.
-/
import Derived.WalkKit
import Derived.ProofKit
import Derived.OpenShut
import Derived.ChangeOld
import Derived.Below
import Derived.SizedLaws
import Derived.Test.YtnnedfhpicdacaaJO8
import Derived.Test.YtnnedfhpicdacaaJO9

set_option linter.unusedVariables false
namespace Go.Proofs.Ytnnedfhpicdacaa.CheckOrders
open Go.ChangeShapes Go.WideShapes Go.ChangeAt Go.RowKit Go.Sx Go.Md Go.Ck Go.Rf

theorem own : ownKnob Try.prog.godebug = none := by kernel_rfl
theorem laidOut : laidOutB Try.prog = true := by kernel_rfl
theorem plain3 : plainCells Try.prog 40 50 = some [.int .i64, .int .i64, .int .i64] := by kernel_rfl
theorem plain7 : plainCells Try.prog 40 65 = some (List.replicate 7 (.int .i64)) := by kernel_rfl

set_option maxRecDepth 100000 in
theorem lifted (os : Os) (started : os.Started) (H : Type) (enc : TypeId × Value → H) :
    ReturnsInHanded {} Try.checked os 5 .any (Rows.checkOrdersSpec.pre6 enc Try.prog Try.f5 Rows.checkOrdersRow.domain false) (Rows.checkOrdersSpec.post enc Try.prog Try.f5 false true false false) := by
  refine returnsInHanded_of_change_sized (C := Try.checked) own started (by kernel_rfl) Try.func5
    (ChangeSpec.witness6 (enc := enc) (C := Try.checked) false ⟨#[], #[.agg #[.int .i64 0, .int .i64 0, .int .i64 0], .slice none 0 0], []⟩ 8 (by kernel_rfl) (by kernel_rfl) (by kernel_rfl) (by kernel_rfl)) ?_
  intro W base args ds gs before hval0 hW hcnd hsz0 _
  have hval : ∀ (j : Nat) t v, Try.f5.params[j]? = some t → args[j]? = some v → Value.okWide Try.prog W .any base t v := hval0
  have hW' := hW
  obtain ⟨p, q, hA0, hV, rfl, hfz, hnd⟩ := hW
  have hA : DataW.TrodAll enc Try.prog W 0 (fun _ => true) true Try.f5.params.toList args.toList ds p := hA0
  rw [Try.params5] at hA hval
  obtain ⟨v0, vs0, d0, ds0, p0, q0, hargs, rfl, rfl, h0, r0⟩ := trodAll_cons hA
  obtain ⟨v1, vs1, d1, ds1, p1, q1, hvs, rfl, rfl, h1, r1⟩ := trodAll_cons r0
  obtain ⟨rfl, rfl, rfl⟩ := trodAll_nil r1
  subst hvs
  obtain rfl : args = #[v0, v1] := by cases args; simp_all
  obtain ⟨rfl, rfl⟩ := trodVars_none hV
  obtain ⟨cs, rfl, hp⟩ := plains_arg 40 plain3 (by kernel_rfl) (hval 0 50 v0 rfl rfl) h0
  obtain ⟨n0, r0, e0, -, hp⟩ := hp.int
  obtain ⟨n1, r1, e1, -, hp⟩ := hp.int
  obtain ⟨n2, r2, e2, -, hp⟩ := hp.int
  have e3 := hp.done
  obtain ⟨cl⟩ := cs
  simp only [] at e0
  subst e3 e2 e1 e0
  obtain ⟨a, m, c, rows, rfl, hmc, _, hm, hrows, hat⟩ := rows_arg 40 Try.underlying51 plain7 (by kernel_rfl) (hval 1 51 v1 rfl rfl) h1
  have lt1 : ∀ x ∈ p1, x.block < W.heap.size := by obtain ⟨m, hm⟩ := h1; exact DataW.trod_lt m _ _ _ hm
  have lt0 : ∀ x ∈ p0, x.block < W.heap.size := by obtain ⟨m, hm⟩ := h0; exact DataW.trod_lt m _ _ _ hm
  clear hA0 hval0 hsz0
  refine (below_of (meets_CheckOrders (h := whole W) (clsAt_of (fun ns hn => (hrows ns hn).1) hat) (by simpa using hm) n0 n1 n2)).mono fun e W' ⟨he, bel⟩ => ?_
  subst he
  exact ⟨_, rfl, _, _, _, [], _, [], hW', trodAll_mk1 (shut_bool Try.underlying4 _), trodAll_cons_mk (Below.trod laidOut (by kernel_rfl) (of_decide_eq_true (by kernel_rfl)) h0 bel lt0) (trodAll_cons_mk (Below.trod laidOut (by kernel_rfl) (of_decide_eq_true (by kernel_rfl)) h1 bel lt1) trodAll_mk0), rfl, bel.frame _, fun h => by cases h⟩

theorem over : Rows.checkOrdersRow.holds Try.pinned (OpenSpec.ofChange Rows.checkOrdersSpec) :=
  OpenClaim.holds_of_wide 5 Try.f5 rfl rfl rfl rfl rfl rfl rfl ⟨rfl, rfl, rfl, rfl, rfl⟩ rfl rfl rfl rfl rfl (by kernel_rfl) Try.func5 (by kernel_rfl)
    (of_decide_eq_true (by kernel_rfl)) (by unfold Func.isWrapper; first | (rw [if_pos (by decide +kernel)]; kernel_rfl) | (rw [if_neg (by decide +kernel)]; exact ⟨rfl, rfl⟩))
    (fun os started H enc _ => lifted os started H enc)
theorem proved : Rows.CheckOrdersSaid := over
#print axioms proved

end Go.Proofs.Ytnnedfhpicdacaa.CheckOrders
namespace Go.Proofs.Ytnnedfhpicdacaa
/-- The row, under a short name, for the claim. -/
theorem checkOrders_holds : Rows.CheckOrdersSaid := CheckOrders.proved
end Go.Proofs.Ytnnedfhpicdacaa
