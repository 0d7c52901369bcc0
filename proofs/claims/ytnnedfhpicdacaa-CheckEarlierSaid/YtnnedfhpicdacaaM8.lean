/-
  A new model; what is asked of a model.
-/
import Derived.Test.YtnnedfhpicdacaaM7
set_option linter.unusedSimpArgs false
set_option linter.unusedVariables false
namespace Go.Md
open Go Go.Sx Go.Proofs Go.Proofs.Ytnnedfhpicdacaa

def none3 : Mo := ⟨-1, 0, 0⟩

/-- What is made of a new model, so far. -/
structure Half (h : PH) (h' : PH) (m fb wb lb : Nat) (t c : Int) (k : Nat) : Prop where
  le : h.le h'
  nm : h m = none
  nf : h fb = none
  nw : h wb = none
  nl : h lb = none
  nd : [m, fb, wb, lb].Nodup
  fl : h' fb = some (.cells (flArr (List.replicate t.toNat false) []) 4 (0, 0))
  w : h' wb = some (.map #[] 0)
  l : h' lb = some (.map #[] 0)
  mo : ∃ base cap, h' m = some (.cells #[.int .i64 c, .slice base k cap, .slice (some ⟨fb, 0, none⟩) t.toNat t.toNat, .map (some wb), .map (some lb)] 45 (0, 0)) ∧
    ((k = 0 ∧ base = none ∧ cap = 0) ∨ ∃ ob junk, base = some ⟨ob, 0, none⟩ ∧ h' ob = some (.cells (moArr (List.replicate k none3) junk) 117 (0, 0)) ∧ junk.length = (cap - k) * 3 ∧ k ≤ cap ∧ h ob = none ∧ ob ∉ [m, fb, wb, lb])

theorem moArr_app (k : Nat) (junk : List Value) : ((List.replicate k none3).map moV).flatten ++ [Value.int .i64 (-1), .int .i64 0, .int .i64 0] ++ junk = ((List.replicate (k + 1) none3).map moV).flatten ++ junk := by
  congr 1
  rw [List.replicate_succ', List.map_append, List.flatten_append]
  rfl
theorem mo_len (k : Nat) : (((List.replicate k none3).map moV).flatten).length = k * 3 := by
  have := moArr_size (l := List.replicate k none3) (junk := [])
  simpa [moArr] using this

def inRange (n a b : Int) : Bool := decide (a ≤ n) && decide (n ≤ b)
/-- What New answers. -/
def newOk (t o c : Int) : Bool := inRange t 1 8 && (inRange o 1 8 && inRange c 1 60)

theorem meets_New_no {h : PH} (t o c : Int) (hn : newOk t o c = false) : Meets Try.prog 11 #[.int .i64 t, .int .i64 o, .int .i64 c] h fun v h' => v = .tuple #[.pointer none, .int .i64 1] ∧ h' = h := by
  apply P_model_New_of
  unfold P_model_New
  refine (meets_in _ _ _).look ?_
  try simp only [xNn_some, add_mk, cell_mk, upd_at, del_at, if_true, if_false, Option.bind_some, List.getElem?_toArray, List.getElem?_cons_succ, List.getElem?_cons_zero, oI_some, oS_some, oM_some, oB_some, oP_some, oT_some, xIdx_some, Nat.zero_add, Nat.add_zero, Nat.mul_one]
  refine xSc_or (!(decide (1 ≤ o) && decide (o ≤ 8))) (fun _ J hJ => ?_) ?_
  · refine (meets_in _ _ _).look ?_
    try simp only [xNn_some, add_mk, cell_mk, upd_at, del_at, if_true, if_false, Option.bind_some, List.getElem?_toArray, List.getElem?_cons_succ, List.getElem?_cons_zero, oI_some, oS_some, oM_some, oB_some, oP_some, oT_some, xIdx_some, Nat.zero_add, Nat.add_zero, Nat.mul_one]
    exact hJ
  refine xSc_or (!(decide (1 ≤ c) && decide (c ≤ 60))) (fun _ J hJ => ?_) ?_
  · refine (meets_in _ _ _).look ?_
    try simp only [xNn_some, add_mk, cell_mk, upd_at, del_at, if_true, if_false, Option.bind_some, List.getElem?_toArray, List.getElem?_cons_succ, List.getElem?_cons_zero, oI_some, oS_some, oM_some, oB_some, oP_some, oT_some, xIdx_some, Nat.zero_add, Nat.add_zero, Nat.mul_one]
    exact hJ
  refine ⟨fun _ => ⟨trivial, rfl⟩, fun hx => ?_⟩
  exfalso
  revert hn
  simp only [newOk, inRange]
  revert hx
  generalize (decide (1 ≤ t) && decide (t ≤ 8)) = x
  generalize (decide (1 ≤ o) && decide (o ≤ 8)) = y
  generalize (decide (1 ≤ c) && decide (c ≤ 60)) = z
  cases x <;> cases y <;> cases z <;> simp

theorem meets_New {h : PH} (t o c : Int) (hn : newOk t o c = true) : Meets Try.prog 11 #[.int .i64 t, .int .i64 o, .int .i64 c] h fun v h' => ∃ w, v = .tuple #[w, .int .i64 0] ∧ Fresh h h' w (Ms.new t o c) := by
  have hr : (1 ≤ t ∧ t ≤ 8) ∧ (1 ≤ o ∧ o ≤ 8) ∧ (1 ≤ c ∧ c ≤ 60) := by simpa [newOk, inRange] using hn
  obtain ⟨⟨t1, t2⟩, ⟨o1, o2⟩, c1, c2⟩ := hr
  apply P_model_New_of
  unfold P_model_New
  refine (meets_in _ _ _).look ?_
  try simp only [xNn_some, add_mk, cell_mk, upd_at, del_at, if_true, if_false, Option.bind_some, List.getElem?_toArray, List.getElem?_cons_succ, List.getElem?_cons_zero, oI_some, oS_some, oM_some, oB_some, oP_some, oT_some, xIdx_some, Nat.zero_add, Nat.add_zero, Nat.mul_one]
  refine xSc_or (!(decide (1 ≤ o) && decide (o ≤ 8))) (fun _ J hJ => ?_) ?_
  · refine (meets_in _ _ _).look ?_
    try simp only [xNn_some, add_mk, cell_mk, upd_at, del_at, if_true, if_false, Option.bind_some, List.getElem?_toArray, List.getElem?_cons_succ, List.getElem?_cons_zero, oI_some, oS_some, oM_some, oB_some, oP_some, oT_some, xIdx_some, Nat.zero_add, Nat.add_zero, Nat.mul_one]
    exact hJ
  refine xSc_or (!(decide (1 ≤ c) && decide (c ≤ 60))) (fun _ J hJ => ?_) ?_
  · refine (meets_in _ _ _).look ?_
    try simp only [xNn_some, add_mk, cell_mk, upd_at, del_at, if_true, if_false, Option.bind_some, List.getElem?_toArray, List.getElem?_cons_succ, List.getElem?_cons_zero, oI_some, oS_some, oM_some, oB_some, oP_some, oT_some, xIdx_some, Nat.zero_add, Nat.add_zero, Nat.mul_one]
    exact hJ
  refine ⟨fun hx => ?_, fun _ => ?_⟩
  · simp [t1, t2, o1, o2, c1, c2] at hx
  refine ⟨by omega, by omega, by omega, by omega, ?_⟩
  intro fb nfb
  intro wb nwb
  obtain ⟨d1, nwb⟩ := upd_none nwb
  intro lb nlb
  obtain ⟨d2, nlb⟩ := upd_none nlb
  obtain ⟨d3, nlb⟩ := upd_none nlb
  intro m nm
  obtain ⟨d4, nm⟩ := upd_none nm
  obtain ⟨d5, nm⟩ := upd_none nm
  obtain ⟨d6, nm⟩ := upd_none nm
  have start : Half h ((((h.upd fb (.cells (List.replicate t.toNat [Value.bool false]).flatten.toArray 4 (0, 0))).upd wb (.map #[] 0)).upd lb (.map #[] 0)).upd m (.cells #[.int .i64 c, .slice none 0 0, .slice (some ⟨fb, 0, none⟩) t.toNat t.toNat, .map (some wb), .map (some lb)] 45 (0, 0))) m fb wb lb t c 0 := by
    refine ⟨?_, nm, nfb, nwb, nlb, ?_, ?_, ?_, ?_, none, 0, PH.upd_same _ _ _, .inl ⟨rfl, rfl, rfl⟩⟩
    · exact upd_le_upd nm (upd_le_upd nlb (upd_le_upd nwb (upd_le_upd nfb (PH.le_refl h))))
    · simp only [List.nodup_cons, List.mem_cons, List.not_mem_nil, or_false, not_or, not_false_eq_true, List.nodup_nil, and_true]
      exact ⟨⟨d6.symm, d5.symm, d4.symm⟩, ⟨d1, d3⟩, d2⟩
    · simp only [upd_at, d6, d3, d1, if_true, if_false]
      congr 2
      simp only [flArr, List.append_nil, List.map_replicate]
      congr 1
      generalize t.toNat = n
      induction n with
      | zero => rfl
      | succ n ih => simp only [List.replicate_succ, List.flatten_cons, ih]; rfl
    · simp only [upd_at, d5, d2, if_true, if_false]
    · simp only [upd_at, d4, if_true, if_false]
  generalize ((((h.upd fb (.cells (List.replicate t.toNat [Value.bool false]).flatten.toArray 4 (0, 0))).upd wb (.map #[] 0)).upd lb (.map #[] 0)).upd m (.cells #[.int .i64 c, .slice none 0 0, .slice (some ⟨fb, 0, none⟩) t.toNat t.toNat, .map (some wb), .map (some lb)] 45 (0, 0))) = h1 at start ⊢
  clear d1 d2 d3 d4 d5 d6 nm nlb nwb nfb
  refine xLoop1 (fun (x : Int) h' => ∃ k : Nat, x = k ∧ (k : Int) ≤ o ∧ Half h h' m fb wb lb t c k) (fun (x : Int) _ => (o - x).toNat) ?_ ⟨0, rfl, by omega, start⟩
  clear start h1
  rintro J x h1 ⟨k, rfl, hk, H⟩ hJ
  refine ⟨fun hc => ?_, fun hc => ?_⟩
  · have hc := of_decide_eq_true hc
    obtain ⟨le, nm, nf, nw, nl, nd, fl, w, l, base, cap, hm, hb⟩ := H
    have hnd := nd
    simp only [List.nodup_cons, List.mem_cons, List.not_mem_nil, or_false, not_or, not_false_eq_true, List.nodup_nil, and_true] at hnd
    obtain ⟨⟨q1, q2, q3⟩, ⟨q4, q5⟩, q6⟩ := hnd
    have hwr : IntKind.wrap .i64 ((k : Int) + 1) = ((k + 1 : Nat) : Int) := by rw [wrap64_id (by omega) (by omega)]; simp
    have hfit : (2 * (k + 1) + 192) * 24 ≤ 2 ^ 48 := by omega
    have hk1 : ((k + 1 : Nat) : Int) ≤ o := by omega
    have hmu : (o - ((k + 1 : Nat) : Int)).toNat < (o - (k : Int)).toNat := by omega
    simp only [xNn_some, add_mk, cell_mk, upd_at, del_at, if_true, if_false, Option.bind_some, List.getElem?_toArray, List.getElem?_cons_succ, List.getElem?_cons_zero, oI_some, oS_some, oM_some, oB_some, oP_some, oT_some, xIdx_some, Nat.zero_add, Nat.add_zero, Nat.mul_one, xBlk, hm]
    intro b n
    have e1 : m ≠ b := ne_of_known hm n
    have e2 : fb ≠ b := ne_of_known fl n
    have e3 : wb ≠ b := ne_of_known w n
    have e4 : lb ≠ b := ne_of_known l n
    have hnb : h b = none := by
      cases hg : h b with
      | none => rfl
      | some O => rw [le _ _ hg] at n; cases n
    have fin : ∀ (h2 : PH) (ob cap' : Nat) (junk : List Value), h.le h2 → h2 m = h1 m → h2 fb = h1 fb → h2 wb = h1 wb → h2 lb = h1 lb → h ob = none → ob ∉ [m, fb, wb, lb] → h2 ob = some (.cells (moArr (List.replicate (k + 1) none3) junk) 117 (0, 0)) → junk.length = (cap' - (k + 1)) * 3 → k + 1 ≤ cap' →
        xSt 1 h2 ⟨m, 1, none⟩ [.slice (some ⟨ob, 0, none⟩) (k + 1) cap'] (fun h' => J (IntKind.wrap .i64 ((k : Int) + 1)) h') := by
      intro h2 ob cap' junk l2 f1 f2 f3 f4 hob hoo hoc hj hcap
      refine xSt_mk (f1.trans hm) rfl (by decide) (by simp [oneCell]) (by simp) ?_
      rw [hwr]
      have ho := hoo
      simp only [List.mem_cons, List.not_mem_nil, or_false, not_or] at ho
      refine hJ _ _ ⟨k + 1, rfl, hk1, ?_⟩ hmu
      refine ⟨upd_le_upd nm l2, nm, nf, nw, nl, nd, ?_, ?_, ?_, some ⟨ob, 0, none⟩, cap', PH.upd_same _ _ _, .inr ⟨ob, junk, rfl, ?_, hj, hcap, hob, hoo⟩⟩
      · rw [PH.upd_ne _ _ (Ne.symm q1)]; exact f2.trans fl
      · rw [PH.upd_ne _ _ (Ne.symm q2)]; exact f3.trans w
      · rw [PH.upd_ne _ _ (Ne.symm q3)]; exact f4.trans l
      · rw [PH.upd_ne _ _ ho.1]; exact hoc
    have src : srcCells (h1.upd b (.cells #[.int .i64 (-1), .int .i64 0, .int .i64 0] 117 (0, 0))) 3 (.slice (some ⟨b, 0, none⟩) 1 1) [.int .i64 (-1), .int .i64 0, .int .i64 0] 1 := by
      refine ⟨rfl, rfl, fun i hi => ?_⟩
      simp only [add_mk, cell_mk, upd_at, if_true, Option.bind_some, Nat.zero_add, List.getElem?_toArray]
    have notin : ∀ x, m ≠ x → fb ≠ x → wb ≠ x → lb ≠ x → x ∉ [m, fb, wb, lb] := by
      intro x a b c d
      simp only [List.mem_cons, List.not_mem_nil, or_false, not_or]
      exact ⟨a.symm, b.symm, c.symm, d.symm⟩
    refine ⟨_, 1, src, by simp [oneCell], hfit, ?_⟩
    rcases hb with ⟨rfl, rfl, rfl⟩ | ⟨ob, junk, rfl, hob, hj, hcap, nob, hoo⟩
    · refine ⟨rfl, rfl, fun hx => (by cases hx), fun _ ob cap' junk nb hc' hj => ?_⟩
      obtain ⟨g, nb⟩ := upd_none nb
      have g1 : m ≠ ob := ne_of_known hm nb
      have g2 : fb ≠ ob := ne_of_known fl nb
      have g3 : wb ≠ ob := ne_of_known w nb
      have g4 : lb ≠ ob := ne_of_known l nb
      have hno : h ob = none := by
        cases hg : h ob with
        | none => rfl
        | some O => rw [le _ _ hg] at nb; cases nb
      try simp only [xNn_some, add_mk, cell_mk, upd_at, del_at, if_true, if_false, Option.bind_some, List.getElem?_toArray, List.getElem?_cons_succ, List.getElem?_cons_zero, oI_some, oS_some, oM_some, oB_some, oP_some, oT_some, xIdx_some, Nat.zero_add, Nat.add_zero, Nat.mul_one]
      refine fin _ ob cap' junk (upd_le_upd hno (upd_le_upd hnb le)) ?_ ?_ ?_ ?_ hno (notin ob g1 g2 g3 g4) ?_ hj hc'
      · simp only [upd_at, g1, e1, if_false]
      · simp only [upd_at, g2, e2, if_false]
      · simp only [upd_at, g3, e3, if_false]
      · simp only [upd_at, g4, e4, if_false]
      · rw [PH.upd_same]
        congr 2
    · have ho := hoo
      simp only [List.mem_cons, List.not_mem_nil, or_false, not_or] at ho
      have gob : ob ≠ b := ne_of_known hob n
      refine ⟨((List.replicate k none3).map moV).flatten, junk, rfl, ?_, mo_len k, hj, hcap, fun ob' cap' junk' nb hc' hj' => ?_⟩
      · rw [PH.upd_ne _ _ gob]; exact hob
      · have sm : ∀ x, x ≠ ob → (((h1.upd b (.cells #[.int .i64 (-1), .int .i64 0, .int .i64 0] 117 (0, 0))).del ob) x = none → x ≠ b ∧ h1 x = none) := by
          intro x hx hn
          rw [del_at, if_neg hx] at hn
          have := upd_none hn
          exact ⟨this.1.symm, this.2⟩
        have key : ob' = ob ∨ (ob' ≠ ob ∧ ob' ≠ b ∧ h1 ob' = none) := by
          by_cases hx : ob' = ob
          · exact .inl hx
          · exact .inr ⟨hx, sm _ hx nb⟩
        have g : m ≠ ob' ∧ fb ≠ ob' ∧ wb ≠ ob' ∧ lb ≠ ob' ∧ h ob' = none := by
          rcases key with rfl | ⟨_, _, hx⟩
          · exact ⟨fun e => ho.1 e.symm, fun e => ho.2.1 e.symm, fun e => ho.2.2.1 e.symm, fun e => ho.2.2.2 e.symm, nob⟩
          · refine ⟨ne_of_known hm hx, ne_of_known fl hx, ne_of_known w hx, ne_of_known l hx, ?_⟩
            cases hg : h ob' with
            | none => rfl
            | some O => rw [le _ _ hg] at hx; cases hx
        obtain ⟨g1, g2, g3, g4, hno⟩ := g
        have ledel : h.le ((h1.upd b (.cells #[.int .i64 (-1), .int .i64 0, .int .i64 0] 117 (0, 0))).del ob) := by
          intro x O hx
          have x1 : x ≠ ob := ne_of_known hx nob
          rw [del_at, if_neg x1]
          exact upd_le_upd hnb le _ _ hx
        try simp only [xNn_some, add_mk, cell_mk, upd_at, del_at, if_true, if_false, Option.bind_some, List.getElem?_toArray, List.getElem?_cons_succ, List.getElem?_cons_zero, oI_some, oS_some, oM_some, oB_some, oP_some, oT_some, xIdx_some, Nat.zero_add, Nat.add_zero, Nat.mul_one]
        refine fin _ ob' cap' junk' (upd_le_upd hno ledel) ?_ ?_ ?_ ?_ hno (notin ob' g1 g2 g3 g4) ?_ hj' hc'
        · simp only [upd_at, del_at, g1, e1, Ne.symm ho.1, if_false]
        · simp only [upd_at, del_at, g2, e2, Ne.symm ho.2.1, if_false]
        · simp only [upd_at, del_at, g3, e3, Ne.symm ho.2.2.1, if_false]
        · simp only [upd_at, del_at, g4, e4, Ne.symm ho.2.2.2, if_false]
        · rw [PH.upd_same]
          unfold moArr
          rw [moArr_app]
  · have hc := of_decide_eq_false hc
    have hko : k = o.toNat := by omega
    subst hko
    obtain ⟨le, nm, nf, nw, nl, nd, fl, w, l, base, cap, hm, hb⟩ := H
    rcases hb with ⟨hz, _⟩ | ⟨ob, junk, rfl, hob, hj, hcap, nob, hoo⟩
    · omega
    · simp only [List.mem_cons, List.not_mem_nil, or_false, not_or] at hoo
      have hnd := nd
      simp only [List.nodup_cons, List.mem_cons, List.not_mem_nil, or_false, not_or, not_false_eq_true, List.nodup_nil, and_true] at hnd
      obtain ⟨⟨q1, q2, q3⟩, ⟨q4, q5⟩, q6⟩ := hnd
      have n8 : o.toNat ≤ 8 := by omega
      have t8 : t.toNat ≤ 8 := by omega
      refine ⟨_, rfl, ⟨m, ob, fb, wb, lb⟩, rfl, ?_, le, ?_⟩
      · refine ⟨?_, by simpa [Ms.new] using n8, by simpa [Ms.new] using t8, ⟨cap, t.toNat, ?_⟩, ⟨junk, hob⟩, ⟨[], fl⟩, ⟨#[], 0, w, by simp [Ents, Ms.new], by simp, by simp⟩, ⟨#[], 0, l, by simp [Ents, Ms.new], by simp, by simp⟩⟩
        · simp only [ML.all, List.nodup_cons, List.mem_cons, List.not_mem_nil, or_false, not_or, not_false_eq_true, List.nodup_nil, and_true]
          exact ⟨⟨fun e => hoo.1 e.symm, q1, q2, q3⟩, ⟨hoo.2.1, hoo.2.2.1, hoo.2.2.2⟩, ⟨q4, q5⟩, q6⟩
        · simpa [Ms.new] using hm
      · intro b hb
        simp only [ML.all, List.mem_cons, List.not_mem_nil, or_false] at hb
        rcases hb with rfl | rfl | rfl | rfl | rfl
        · exact nm
        · exact nob
        · exact nf
        · exact nw
        · exact nl

end Go.Md
