/-
  The statement GhostRight is proved: whatever the input, it returns true, and the input reads as it did. Conditions: none.
-/
import Derived.WalkKit
import Derived.ProofKit
import Derived.OpenShut
import Derived.ChangeOld
import Derived.Below
import Derived.SizedLaws
import Derived.Test.YtnnedfhpicdacaaJG10
import Derived.Test.YtnnedfhpicdacaaJG11

set_option linter.unusedVariables false
namespace Go.Proofs.Ytnnedfhpicdacaa.GhostRight
open Go.ChangeShapes Go.WideShapes Go.ChangeAt Go.RowKit Go.Sx Go.Md Go.Gh

theorem own : ownKnob Try.prog.godebug = none := by kernel_rfl
theorem laidOut : laidOutB Try.prog = true := by kernel_rfl
theorem plain3 : plainCells Try.prog 40 50 = some [.int .i64, .int .i64, .int .i64] := by kernel_rfl
theorem plain13 : plainCells Try.prog 40 88 = some (List.replicate 13 (.int .i64)) := by kernel_rfl

theorem u8_rng {u : Int} (h : (Lit.int .u8 u).wf = true) : 0 ≤ u ∧ u ≤ 255 := by
  simp only [Lit.wf, Bool.and_eq_true, decide_eq_true_eq] at h
  have h1 : IntKind.min .u8 = 0 := rfl
  have h2 : IntKind.max .u8 = 255 := rfl
  omega

set_option maxRecDepth 100000 in
theorem lifted (os : Os) (started : os.Started) (H : Type) (enc : TypeId × Value → H) :
    ReturnsInHanded {} Try.checked os 8 .any (Rows.ghostRightSpec.pre6 enc Try.prog Try.f8 Rows.ghostRightRow.domain false) (Rows.ghostRightSpec.post enc Try.prog Try.f8 false true false false) := by
  refine returnsInHanded_of_change_sized (C := Try.checked) own started (by kernel_rfl) Try.func8
    (ChangeSpec.witness6 (enc := enc) (C := Try.checked) false ⟨#[], #[.agg #[.int .i64 0, .int .i64 0, .int .i64 0], .slice none 0 0, .int .u8 0], []⟩ 8 (by kernel_rfl) (by kernel_rfl) (by kernel_rfl) (by kernel_rfl)) ?_
  intro W base args ds gs before hval0 hW hcnd hsz0 _
  have hval : ∀ (j : Nat) t v, Try.f8.params[j]? = some t → args[j]? = some v → Value.okWide Try.prog W .any base t v := hval0
  have hW' := hW
  obtain ⟨p, q, hA0, hV, rfl, hfz, hnd⟩ := hW
  have hA : DataW.TrodAll enc Try.prog W 0 (fun _ => true) true Try.f8.params.toList args.toList ds p := hA0
  rw [Try.params8] at hA hval
  obtain ⟨v0, vs0, d0, ds0, p0, q0, hargs, rfl, rfl, h0, r0⟩ := trodAll_cons hA
  obtain ⟨v1, vs1, d1, ds1, p1, q1, hvs, rfl, rfl, h1, r1⟩ := trodAll_cons r0
  obtain ⟨v2, vs2, d2, ds2, p2, q2, hvs2, rfl, rfl, h2, r2⟩ := trodAll_cons r1
  obtain ⟨rfl, rfl, rfl⟩ := trodAll_nil r2
  subst hvs2
  subst hvs
  obtain rfl : args = #[v0, v1, v2] := by cases args; simp_all
  obtain ⟨rfl, rfl⟩ := trodVars_none hV
  obtain ⟨cs, rfl, hp⟩ := plains_arg 40 plain3 (by kernel_rfl) (hval 0 50 v0 rfl rfl) h0
  obtain ⟨n0, r0, e0, -, hp⟩ := hp.int
  obtain ⟨n1, r1, e1, -, hp⟩ := hp.int
  obtain ⟨n2, r2, e2, -, hp⟩ := hp.int
  have e3 := hp.done
  obtain ⟨cl⟩ := cs
  simp only [] at e0
  subst e3 e2 e1 e0
  obtain ⟨a, m, c, rows, rfl, hmc, _, hm, hrows, hat⟩ := rows_arg 40 Try.underlying82 plain13 (by kernel_rfl) (hval 1 82 v1 rfl rfl) h1
  obtain ⟨u, rfl, rfl, rfl, hwf⟩ := open_int Try.underlying5 (hval 2 5 v2 rfl rfl) h2
  have hu : 0 ≤ u ∧ u ≤ 255 := u8_rng hwf
  have lt1 : ∀ x ∈ p1, x.block < W.heap.size := by obtain ⟨m, hm⟩ := h1; exact DataW.trod_lt m _ _ _ hm
  have lt0 : ∀ x ∈ p0, x.block < W.heap.size := by obtain ⟨m, hm⟩ := h0; exact DataW.trod_lt m _ _ _ hm
  clear hA0 hval0 hsz0
  refine (below_of (meets_GhostRight (h := whole W) (ensAt_of (fun ns hn => (hrows ns hn).1) hat) (by simpa using hm) hmc n0 n1 n2 u hu)).mono fun e W' ⟨he, bel⟩ => ?_
  subst he
  exact ⟨_, rfl, _, _, _, [], _, [], hW', trodAll_mk1 (shut_bool Try.underlying4 _), trodAll_cons_mk (Below.trod laidOut (by kernel_rfl) (of_decide_eq_true (by kernel_rfl)) h0 bel lt0) (trodAll_cons_mk (Below.trod laidOut (by kernel_rfl) (of_decide_eq_true (by kernel_rfl)) h1 bel lt1) (trodAll_cons_mk (shut_int Try.underlying5 hwf) trodAll_mk0)), rfl, bel.frame _, fun h => by cases h⟩

theorem over : Rows.ghostRightRow.holds Try.pinned (OpenSpec.ofChange Rows.ghostRightSpec) :=
  OpenClaim.holds_of_wide 8 Try.f8 rfl rfl rfl rfl rfl rfl rfl ⟨rfl, rfl, rfl, rfl, rfl⟩ rfl rfl rfl rfl rfl (by kernel_rfl) Try.func8 (by kernel_rfl)
    (of_decide_eq_true (by kernel_rfl)) (by unfold Func.isWrapper; first | (rw [if_pos (by decide +kernel)]; kernel_rfl) | (rw [if_neg (by decide +kernel)]; exact ⟨rfl, rfl⟩))
    (fun os started H enc _ => lifted os started H enc)
theorem proved : Rows.GhostRightSaid := over
#print axioms proved

end Go.Proofs.Ytnnedfhpicdacaa.GhostRight
namespace Go.Proofs.Ytnnedfhpicdacaa
/-- The row, under a short name, for the claim. -/
theorem ghostRight_holds : Rows.GhostRightSaid := GhostRight.proved
end Go.Proofs.Ytnnedfhpicdacaa
