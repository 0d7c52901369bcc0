/-
  The statement GhostNobody is proved: whatever the input, it returns true, and the input reads as it did. Conditions: none.
-/
import Derived.Test.YtnnedfhpicdacaaG5
import Derived.Test.YtnnedfhpicdacaaSx12
import Derived.WalkKit
import Derived.ProofKit
import Derived.OpenShut
import Derived.ChangeOld
import Derived.Below
import Derived.SizedLaws
set_option linter.unusedVariables false
namespace Go.Proofs.Ytnnedfhpicdacaa.GhostNobody
open Go.ChangeShapes Go.WideShapes Go.ChangeAt Go.RowKit Go.Sx Go.Gh Go.Md

theorem own : ownKnob Try.prog.godebug = none := by kernel_rfl
theorem laidOut : laidOutB Try.prog = true := by kernel_rfl

theorem plain13 : plainCells Try.prog 40 88 = some [.int .i64, .int .i64, .int .i64, .int .i64, .int .i64, .int .i64, .int .i64, .int .i64, .int .i64, .int .i64, .int .i64, .int .i64, .int .i64] := by kernel_rfl

set_option maxRecDepth 100000 in
theorem lifted (os : Os) (started : os.Started) (H : Type) (enc : TypeId × Value → H) :
    ReturnsInHanded {} Try.checked os 10 .any (Rows.ghostNobodySpec.pre6 enc Try.prog Try.f10 Rows.ghostNobodyRow.domain false) (Rows.ghostNobodySpec.post enc Try.prog Try.f10 false true false false) := by
  refine returnsInHanded_of_change_sized (C := Try.checked) own started (by kernel_rfl) Try.func10
    (ChangeSpec.witness6 (enc := enc) (C := Try.checked) false ⟨#[], #[.agg #[.int .i64 0, .int .i64 0, .int .i64 0, .int .i64 0, .int .i64 0, .int .i64 0, .int .i64 0, .int .i64 0, .int .i64 0, .int .i64 0, .int .i64 0, .int .i64 0, .int .i64 0]], []⟩ 8 (by kernel_rfl) (by kernel_rfl) (by kernel_rfl) (by kernel_rfl)) ?_
  intro W base args ds gs before hval0 hW hcnd hsz0 _
  have hval : ∀ (j : Nat) t v, Try.f10.params[j]? = some t → args[j]? = some v → Value.okWide Try.prog W .any base t v := hval0
  have hW' := hW
  obtain ⟨p, q, hA0, hV, rfl, hfz, hnd⟩ := hW
  have hA : DataW.TrodAll enc Try.prog W 0 (fun _ => true) true Try.f10.params.toList args.toList ds p := hA0
  rw [Try.params10] at hA hval
  obtain ⟨v0, vs0, d0, ds0, p0, q0, hargs, rfl, rfl, h0, r0⟩ := trodAll_cons hA
  obtain ⟨rfl, rfl, rfl⟩ := trodAll_nil r0
  obtain rfl : args = #[v0] := by cases args; simp_all
  obtain ⟨rfl, rfl⟩ := trodVars_none hV
  obtain ⟨cs, rfl, hp⟩ := plains_arg 40 plain13 (by kernel_rfl) (hval 0 88 v0 rfl rfl) h0
  obtain ⟨n0, r0, e0, -, hp⟩ := hp.int
  obtain ⟨n1, r1, e1, -, hp⟩ := hp.int
  obtain ⟨n2, r2, e2, -, hp⟩ := hp.int
  obtain ⟨n3, r3, e3, -, hp⟩ := hp.int
  obtain ⟨n4, r4, e4, -, hp⟩ := hp.int
  obtain ⟨n5, r5, e5, -, hp⟩ := hp.int
  obtain ⟨n6, r6, e6, -, hp⟩ := hp.int
  obtain ⟨n7, r7, e7, -, hp⟩ := hp.int
  obtain ⟨n8, r8, e8, -, hp⟩ := hp.int
  obtain ⟨n9, r9, e9, -, hp⟩ := hp.int
  obtain ⟨n10, r10, e10, -, hp⟩ := hp.int
  obtain ⟨n11, r11, e11, -, hp⟩ := hp.int
  obtain ⟨n12, r12, e12, -, hp⟩ := hp.int
  have e13 := hp.done
  obtain ⟨cl⟩ := cs
  simp only [] at e0
  subst e13 e12 e11 e10 e9 e8 e7 e6 e5 e4 e3 e2 e1 e0
  have lt0 : ∀ x ∈ p0, x.block < W.heap.size := by obtain ⟨m, hm⟩ := h0; exact DataW.trod_lt m _ _ _ hm
  clear hA0 hval0 hsz0
  refine (below_of (meets_GhostNobody (h := whole W) ⟨n0, n1, n2, ⟨n3, n4, n5⟩, ⟨n6, n7, n8, n9, n10⟩, n11, n12⟩)).mono fun e W' ⟨he, bel⟩ => ?_
  subst he
  exact ⟨_, rfl, _, _, _, [], _, [], hW', trodAll_mk1 (shut_bool Try.underlying4 _), trodAll_cons_mk (Below.trod laidOut (by kernel_rfl) (of_decide_eq_true (by kernel_rfl)) h0 bel lt0) trodAll_mk0, rfl, bel.frame _, fun h => by cases h⟩

theorem over : Rows.ghostNobodyRow.holds Try.pinned (OpenSpec.ofChange Rows.ghostNobodySpec) :=
  OpenClaim.holds_of_wide 10 Try.f10 rfl rfl rfl rfl rfl rfl rfl ⟨rfl, rfl, rfl, rfl, rfl⟩ rfl rfl rfl rfl rfl (by kernel_rfl) Try.func10 (by kernel_rfl)
    (of_decide_eq_true (by kernel_rfl)) (by unfold Func.isWrapper; first | (rw [if_pos (by decide +kernel)]; kernel_rfl) | (rw [if_neg (by decide +kernel)]; exact ⟨rfl, rfl⟩))
    (fun os started H enc _ => lifted os started H enc)
theorem proved : Rows.GhostNobodySaid := over
#print axioms proved

end Go.Proofs.Ytnnedfhpicdacaa.GhostNobody
namespace Go.Proofs.Ytnnedfhpicdacaa
/-- The row, under a short name, for the claim. -/
theorem ghostNobody_holds : Rows.GhostNobodySaid := GhostNobody.proved
end Go.Proofs.Ytnnedfhpicdacaa
