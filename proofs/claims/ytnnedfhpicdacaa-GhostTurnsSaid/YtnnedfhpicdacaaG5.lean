/-
  A log that nobody made; what is told may be written over.
-/
import Derived.Test.YtnnedfhpicdacaaG4
import Derived.Test.YtnnedfhpicdacaaM9
set_option linter.unusedSimpArgs false
set_option linter.unusedVariables false
namespace Go.Gh
open Go Go.Sx Go.Md Go.Proofs Go.Proofs.Ytnnedfhpicdacaa

/-- A log of one's own: 'h0' is what was known at first. -/
def GOwn (h0 h : PH) (p : Value) (g : Gs) : Prop := ∃ G, p = gp G ∧ GRep h G g ∧ h0.le h ∧ ∀ b ∈ G.all, h0 b = none

theorem GOwn.of_fresh {h0 h h' : PH} {v : Value} {g : Gs} (l : h0.le h) (f : GFresh h h' v g) : GOwn h0 h' v g := by
  obtain ⟨G, e, r, l', n⟩ := f
  exact ⟨G, e, r, PH.le_trans l l', fun b hb => none_of l (n b hb)⟩
theorem GOwn.add {h0 h : PH} {p : Value} {g : Gs} (o : GOwn h0 h p g) (e : En) (hb : g.entries.length ≤ 100000) (few : g.model.waits.length ≤ 64) :
    Meets Try.prog 40 #[p, enV e] h fun v h' => v = .int .i64 (g.code e) ∧ GOwn h0 h' p (g.next e) := by
  obtain ⟨G, rfl, r, l, n⟩ := o
  refine (meets_Add r e hb few).mono ?_
  rintro v h' ⟨rfl, G', el, r', x, nn⟩
  refine ⟨rfl, G', by simp only [gp, el], r', fun b O hO => x b O (l b O hO) (fun hm => by rw [n b hm] at hO; cases hO), fun b hb => ?_⟩
  rcases nn b hb with hm | hm
  · exact n b hm
  · exact none_of l hm
theorem GOwn.le {h0 h h' : PH} {p : Value} {g : Gs} (o : GOwn h0 h p g) (l : h.le h') : GOwn h0 h' p g := by
  obtain ⟨G, e, r, l', n⟩ := o
  exact ⟨G, e, r.le l, PH.le_trans l' l, n⟩
theorem GOwn.base {h0 h : PH} {p : Value} {g : Gs} (o : GOwn h0 h p g) : h0.le h := o.choose_spec.2.2.1
/-- What is known besides, and is none of the log's, is left alone. -/
theorem GOwn.len {h0 h : PH} {p : Value} {g : Gs} (o : GOwn h0 h p g) : Meets Try.prog 43 #[p] h fun v h' => v = .int .i64 g.entries.length ∧ h' = h := by
  obtain ⟨G, rfl, r, _⟩ := o
  exact meets_gLen r

theorem pointer_of {h0 h : PH} {p : Value} {g : Gs} (o : GOwn h0 h p g) : ∃ a, p = .pointer (some a) := by
  obtain ⟨G, rfl, _⟩ := o; exact ⟨_, rfl⟩

def callE (k : Int) : En := ⟨1, 0, 0, ⟨k, 0, 0⟩, ev0, 0, 0⟩
def retE : En := ⟨3, 0, 0, op0, ev0, 0, 9⟩
def comE : En := ⟨2, 0, 0, op0, ⟨3, 0, 0, 0, 9⟩, 0, 0⟩

theorem meets_alive15 {h : PH} : Meets Try.prog 38 #[] h fun v h' => v = .bool true ∧ h' = h := by
  apply Meets.same
  apply P_law15_alive_of
  unfold P_law15_alive
  refine (meets_gNew 2 1 3 (by decide)).mono ?_
  rintro _ h1 ⟨w, rfl, f⟩
  have o := GOwn.of_fresh (PH.le_refl h) f
  obtain ⟨a, rfl⟩ := pointer_of o
  clear f
  simp only [oTup_mk, oIx_some, xNn_some, add_mk, cell_mk, upd_at, del_at, if_true, if_false, Option.bind_some, List.getElem?_toArray, List.getElem?_cons_succ, List.getElem?_cons_zero, oI_some, oS_some, oM_some, oB_some, oP_some, oT_some, xIdx_some, Nat.zero_add, Nat.add_zero, Nat.mul_one]
  refine ⟨rfl, xSc_or false (fun _ J hJ => hJ) ⟨fun hx => (by cases hx), fun _ => ?_⟩⟩
  refine (o.add (callE 3) (by decide) (of_decide_eq_true (by kernel_rfl))).mono ?_
  rintro _ h2 ⟨rfl, o⟩
  simp only [oI_some]
  refine (o.add retE (by decide) (of_decide_eq_true (by kernel_rfl))).mono ?_
  rintro _ h3 ⟨rfl, o⟩
  simp only [oI_some]
  refine (o.add comE (by decide) (of_decide_eq_true (by kernel_rfl))).mono ?_
  rintro _ h4 ⟨rfl, o⟩
  simp only [oI_some]
  refine (o.add retE (by decide) (of_decide_eq_true (by kernel_rfl))).mono ?_
  rintro _ h5 ⟨rfl, o⟩
  simp only [oI_some]
  have k1 : (Gs.new 2 1 3).code (callE 3) = 0 := by kernel_rfl
  have k2 : ((Gs.new 2 1 3).next (callE 3)).code retE = 15 := by kernel_rfl
  have k3 : (((Gs.new 2 1 3).next (callE 3)).next retE).code comE = 0 := by kernel_rfl
  have k4 : ((((Gs.new 2 1 3).next (callE 3)).next retE).next comE).code retE = 0 := by kernel_rfl
  have k5 : ((((((Gs.new 2 1 3).next (callE 3)).next retE).next comE).next retE).entries.length : Int) = 3 := by kernel_rfl
  rw [k1, k2, k3, k4]
  refine xSc_and true (fun _ J hJ => hJ) ?_
  refine xSc_and true (fun _ J hJ => hJ) ?_
  refine xSc_and true (fun _ J hJ => hJ) ?_
  refine xSc_and true (fun _ J hJ => ?_) ⟨rfl, o.base⟩
  refine o.len.look ?_
  simp only [oI_some]
  rw [k5]
  exact hJ

theorem meets_theirs15 {h : PH} (e : En) : Meets Try.prog 35 #[enV e] h fun v h' => v = enV e ∧ h' = h := by
  apply Meets.same
  apply P_law15_theirs_of
  unfold P_law15_theirs
  intro b nb
  have l : h.le _ := PH.le_upd (O := .cells #[.int .i64 e.kind, .int .i64 e.thread, .int .i64 e.number, .int .i64 e.op.kind, .int .i64 e.op.obj, .int .i64 e.op.arg, .int .i64 e.event.kind, .int .i64 e.event.thread, .int .i64 e.event.obj, .int .i64 e.event.arg, .int .i64 e.event.err, .int .i64 e.value, .int .i64 e.err] 88 (0, 0)) nb
  have eb := PH.upd_same h b (.cells #[.int .i64 e.kind, .int .i64 e.thread, .int .i64 e.number, .int .i64 e.op.kind, .int .i64 e.op.obj, .int .i64 e.op.arg, .int .i64 e.event.kind, .int .i64 e.event.thread, .int .i64 e.event.obj, .int .i64 e.event.arg, .int .i64 e.event.err, .int .i64 e.value, .int .i64 e.err] 88 (0, 0))
  generalize h.upd b (.cells #[.int .i64 e.kind, .int .i64 e.thread, .int .i64 e.number, .int .i64 e.op.kind, .int .i64 e.op.obj, .int .i64 e.op.arg, .int .i64 e.event.kind, .int .i64 e.event.thread, .int .i64 e.event.obj, .int .i64 e.event.arg, .int .i64 e.event.err, .int .i64 e.value, .int .i64 e.err] 88 (0, 0)) = h1 at l eb ⊢
  intro b2 nb2
  have q1 : b ≠ b2 := ne_of_known eb nb2
  simp only [xNn_some, add_mk, cell_mk, upd_at, del_at, if_true, if_false, Option.bind_some, List.getElem?_toArray, List.getElem?_cons_succ, List.getElem?_cons_zero, oI_some, oS_some, oM_some, oB_some, oP_some, oT_some, xIdx_some, Nat.zero_add, Nat.add_zero, Nat.mul_one, q1, eb]
  intro b3 nb3
  obtain ⟨q2, nb3⟩ := upd_none nb3
  have q3 : b ≠ b3 := ne_of_known eb nb3
  refine xSt_mk (PH.upd_same _ _ _) rfl (by decide) (by simp [oneCell]) (by simp) ?_
  rw [PH.upd_upd, setN5]
  simp only [xNn_some, add_mk, cell_mk, upd_at, del_at, if_true, if_false, Option.bind_some, List.getElem?_toArray, List.getElem?_cons_succ, List.getElem?_cons_zero, oI_some, oS_some, oM_some, oB_some, oP_some, oT_some, xIdx_some, Nat.zero_add, Nat.add_zero, Nat.mul_one, q1, q3, eb]
  refine xSt_mk ((PH.upd_ne _ _ q2).trans (PH.upd_same _ _ _)) rfl (by decide) (by simp [oneCell]) (by simp) ?_
  simp only [xNn_some, add_mk, cell_mk, upd_at, del_at, if_true, if_false, Option.bind_some, List.getElem?_toArray, List.getElem?_cons_succ, List.getElem?_cons_zero, oI_some, oS_some, oM_some, oB_some, oP_some, oT_some, xIdx_some, Nat.zero_add, Nat.add_zero, Nat.mul_one, setN, List.setIfInBounds_toArray, List.set_cons_zero, List.set_cons_succ]
  exact ⟨rfl, upd_le_upd (none_of l nb2) (PH.le_trans l (upd_le_upd nb3 (PH.le_upd nb2)))⟩

/-- The statement's own walk. -/
theorem meets_GhostNobody {h : PH} (e : En) : Meets Try.prog 10 #[enV e] h fun v h' => v = .bool true ∧ h' = h := by
  apply Meets.same
  apply P_law15_GhostNobody_of
  unfold P_law15_GhostNobody
  intro b nb
  have l : h.le _ := PH.le_upd (O := .cells #[.int .i64 e.kind, .int .i64 e.thread, .int .i64 e.number, .int .i64 e.op.kind, .int .i64 e.op.obj, .int .i64 e.op.arg, .int .i64 e.event.kind, .int .i64 e.event.thread, .int .i64 e.event.obj, .int .i64 e.event.arg, .int .i64 e.event.err, .int .i64 e.value, .int .i64 e.err] 88 (0, 0)) nb
  have eb := PH.upd_same h b (.cells #[.int .i64 e.kind, .int .i64 e.thread, .int .i64 e.number, .int .i64 e.op.kind, .int .i64 e.op.obj, .int .i64 e.op.arg, .int .i64 e.event.kind, .int .i64 e.event.thread, .int .i64 e.event.obj, .int .i64 e.event.arg, .int .i64 e.event.err, .int .i64 e.value, .int .i64 e.err] 88 (0, 0))
  generalize h.upd b (.cells #[.int .i64 e.kind, .int .i64 e.thread, .int .i64 e.number, .int .i64 e.op.kind, .int .i64 e.op.obj, .int .i64 e.op.arg, .int .i64 e.event.kind, .int .i64 e.event.thread, .int .i64 e.event.obj, .int .i64 e.event.arg, .int .i64 e.event.err, .int .i64 e.value, .int .i64 e.err] 88 (0, 0)) = h1 at l eb ⊢
  intro b12 n12
  intro b13 n13
  obtain ⟨q1, n13⟩ := upd_none n13
  have l3 : h1.le _ := upd_le_upd n13 (O := .cells #[.pointer none, .pointer (some ⟨b12, 0, none⟩)] 99 (0, 0)) (PH.le_upd (O := .cells #[.int .i64 0, .pointer none, .slice none 0 0, .slice none 0 0] 109 (0, 0)) n12)
  have e12 : ((h1.upd b12 (.cells #[.int .i64 0, .pointer none, .slice none 0 0, .slice none 0 0] 109 (0, 0))).upd b13 (.cells #[.pointer none, .pointer (some ⟨b12, 0, none⟩)] 99 (0, 0))) b12 = some (.cells #[.int .i64 0, .pointer none, .slice none 0 0, .slice none 0 0] 109 (0, 0)) := by simp only [upd_at, q1, if_false, if_true]
  have e13 : ((h1.upd b12 (.cells #[.int .i64 0, .pointer none, .slice none 0 0, .slice none 0 0] 109 (0, 0))).upd b13 (.cells #[.pointer none, .pointer (some ⟨b12, 0, none⟩)] 99 (0, 0))) b13 = some (.cells #[.pointer none, .pointer (some ⟨b12, 0, none⟩)] 99 (0, 0)) := PH.upd_same _ _ _
  generalize ((h1.upd b12 (.cells #[.int .i64 0, .pointer none, .slice none 0 0, .slice none 0 0] 109 (0, 0))).upd b13 (.cells #[.pointer none, .pointer (some ⟨b12, 0, none⟩)] 99 (0, 0))) = h3 at l3 e12 e13 ⊢
  have e1 := l3 _ _ eb
  have le0 := PH.le_trans l l3
  clear l l3 eb n12 n13 nb q1
  refine xBlk_split (fun h' => h3.le h') ?_ fun K hK => ?_
  rotate_left
  · -- nobody's logs
    refine xLoop1 (fun (x : Int) h' => h3.le h' ∧ 0 ≤ x ∧ x ≤ 2) (fun x _ => (2 - x).toNat) ?_ ⟨PH.le_refl _, by omega, by omega⟩
    rintro J x h4 ⟨l4, x0, x2⟩ hJ
    refine ⟨fun hc => ?_, fun hc => hK _ l4⟩
    have hc : x < 2 := by simpa using hc
    have hw : IntKind.wrap .i64 (x + 1) = x + 1 := wrap64_id (by omega) (by omega)
    have hmu : (2 - (x + 1)).toNat < (2 - x).toNat := by omega
    have hx : x = 0 ∨ x = 1 := by omega
    have a1 := l4 _ _ e1
    have a12 := l4 _ _ e12
    have a13 := l4 _ _ e13
    have step : ∀ h', h4.le h' → J (x + 1) h' := fun h' l' => hJ _ _ ⟨PH.le_trans l4 l', by omega, by omega⟩ hmu
    have nolog : ∃ p, (#[Value.pointer none, .pointer (some ⟨b12, 0, none⟩)] : Array Value)[x.toNat]? = some (.pointer p) ∧ NoLog h4 p := by
      rcases hx with rfl | rfl
      · exact ⟨none, rfl, .inl rfl⟩
      · exact ⟨some ⟨b12, 0, none⟩, rfl, .inr ⟨b12, _, _, _, rfl, a12⟩⟩
    obtain ⟨p, hp, nl⟩ := nolog
    refine xBlk_split (fun h' => h4.le h') (fun h' l' => by rw [hw]; exact step h' l') fun K' hK' => ?_
    clear hK hJ step
    simp only [xNn_some, add_mk, cell_mk, upd_at, del_at, if_true, if_false, Option.bind_some, List.getElem?_toArray, List.getElem?_cons_succ, List.getElem?_cons_zero, oI_some, oS_some, oM_some, oB_some, oP_some, oT_some, xIdx_some, Nat.zero_add, Nat.add_zero, Nat.mul_one, a13, a1, hp]
    refine ⟨x0, hc, ?_⟩
    refine (nl.opn e.thread).look ?_
    simp only [oTup_mk, oIx_some, oAgg_mk, xNn_some, add_mk, cell_mk, upd_at, del_at, if_true, if_false, Option.bind_some, List.getElem?_toArray, List.getElem?_cons_succ, List.getElem?_cons_zero, oI_some, oS_some, oM_some, oB_some, oP_some, oT_some, xIdx_some, Nat.zero_add, Nat.add_zero, Nat.mul_one]
    refine ⟨rfl, rfl, rfl, ?_⟩
    intro b5 n5
    have q5 : b ≠ b5 := ne_of_known a1 n5
    refine xSt_mk (PH.upd_same _ _ _) rfl (by decide) (by simp [oneCell]) (by simp) ?_
    rw [PH.upd_upd, setN3]
    have nl5 := nl.le (PH.le_upd (O := .cells #[.int .i64 0, .int .i64 0, .int .i64 0] 86 (0, 0)) n5)
    have l5 : h4.le _ := PH.le_upd (O := .cells #[.int .i64 0, .int .i64 0, .int .i64 0] 86 (0, 0)) n5
    have e5 := PH.upd_same h4 b5 (.cells #[.int .i64 0, .int .i64 0, .int .i64 0] 86 (0, 0))
    have a5 := l5 _ _ a1
    generalize h4.upd b5 (.cells #[.int .i64 0, .int .i64 0, .int .i64 0] 86 (0, 0)) = h5 at nl5 l5 e5 a5 ⊢
    simp only [xNn_some, add_mk, cell_mk, upd_at, del_at, if_true, if_false, Option.bind_some, List.getElem?_toArray, List.getElem?_cons_succ, List.getElem?_cons_zero, oI_some, oS_some, oM_some, oB_some, oP_some, oT_some, xIdx_some, Nat.zero_add, Nat.add_zero, Nat.mul_one, a5]
    refine (meets_theirs15 e).look ?_
    simp only [enV, oAgg_mk, xNn_some, add_mk, cell_mk, upd_at, del_at, if_true, if_false, Option.bind_some, List.getElem?_toArray, List.getElem?_cons_succ, List.getElem?_cons_zero, oI_some, oS_some, oM_some, oB_some, oP_some, oT_some, xIdx_some, Nat.zero_add, Nat.add_zero, Nat.mul_one]
    refine ⟨rfl, ?_⟩
    refine (nl5.add e).look ?_
    simp only [oI_some]
    refine xSc_or false (fun _ J hJ => ?_) ?_
    · refine nl5.all.look ?_
      simp only [oS_some]
      refine nl5.len.look ?_
      simp only [oI_some]
      exact hJ
    refine xSc_or false (fun _ J hJ => ?_) ?_
    · simp only [xNn_some, add_mk, cell_mk, upd_at, del_at, if_true, if_false, Option.bind_some, List.getElem?_toArray, List.getElem?_cons_succ, List.getElem?_cons_zero, oI_some, oS_some, oM_some, oB_some, oP_some, oT_some, xIdx_some, Nat.zero_add, Nat.add_zero, Nat.mul_one, e5]
      refine ⟨true, ?_, hJ⟩
      exact eqLaw_ints (P := Try.prog) (t := 86) [.i64, .i64, .i64] [0, 0, 0] [0, 0, 0] (by kernel_rfl) rfl rfl
    refine xSc_or false (fun _ J hJ => hJ) ?_
    refine xSc_or false (fun _ J hJ => ?_) ?_
    · refine nl5.model.look ?_
      simp only [oP_some]
      exact hJ
    exact ⟨fun hx => (by cases hx), fun _ => hK' _ l5⟩
  intro h4 l4
  refine (meets_gNew 1 1 1 (by decide)).mono ?_
  rintro _ h5 ⟨w, rfl, f⟩
  have o := GOwn.of_fresh (PH.le_refl h4) f
  obtain ⟨a, rfl⟩ := pointer_of o
  clear f
  simp only [oTup_mk, oIx_some, xNn_some, add_mk, cell_mk, upd_at, del_at, if_true, if_false, Option.bind_some, List.getElem?_toArray, List.getElem?_cons_succ, List.getElem?_cons_zero, oI_some, oS_some, oM_some, oB_some, oP_some, oT_some, xIdx_some, Nat.zero_add, Nat.add_zero, Nat.mul_one]
  refine ⟨rfl, xSc_or false (fun _ J hJ => hJ) ?_⟩
  refine ⟨fun _ => ?_, fun hx => (by cases hx)⟩
  refine (o.add (callE 1) (by decide) (of_decide_eq_true (by kernel_rfl))).mono ?_
  rintro _ h6 ⟨rfl, o⟩
  have k1 : (Gs.new 1 1 1).code (callE 1) = 0 := by kernel_rfl
  have hent : ((Gs.new 1 1 1).next (callE 1)).entries = [callE 1] := by kernel_rfl
  have hmod : ((Gs.new 1 1 1).next (callE 1)).model = Ms.new 1 1 1 := by kernel_rfl
  generalize (Gs.new 1 1 1).next (callE 1) = g2 at o hent hmod
  simp only [oI_some, k1]
  refine ⟨fun hx => (by cases hx), fun _ => ?_⟩
  obtain ⟨G, hG, r, l6, n6⟩ := o
  have ha : a = ⟨G.l, 0, none⟩ := by simpa [gp] using hG
  subst ha
  have hlen : g2.entries.length ≤ 100000 := by rw [hent]; decide
  refine (meets_gAll r hlen).mono ?_
  rintro v h7 hv
  rcases hv with ⟨he, _⟩ | ⟨b7, cap, junk, rfl, n7, rfl⟩
  · rw [hent] at he; cases he
  rw [hent]
  simp only [oS_some, List.length_singleton]
  refine ⟨fun hx => (by cases hx), fun _ => ?_⟩
  refine xIdx_at (by decide) (by decide) ?_
  try simp only [xNn_some, add_mk, cell_mk, upd_at, del_at, if_true, if_false, Option.bind_some, List.getElem?_toArray, List.getElem?_cons_succ, List.getElem?_cons_zero, oI_some, oS_some, oM_some, oB_some, oP_some, oT_some, xIdx_some, Nat.zero_add, Nat.add_zero, Nat.mul_one]
  refine xSt_mk (PH.upd_same _ _ _) rfl (by decide) (by simp [oneCell]) (by simp [recArr, enL]) ?_
  rw [PH.upd_upd]
  generalize Obj.cells (setN (recArr enL [callE 1] junk) _ [Value.int .i64 9]) 90 (0, 0) = O8
  have r8 := r.le (PH.le_upd (O := O8) n7)
  have l8 := PH.le_trans l6 (PH.le_upd (O := O8) n7)
  generalize h6.upd b7 O8 = h8 at r8 l8 ⊢
  refine (meets_gModel r8).mono ?_
  rintro _ h9 ⟨L, rfl, rm, l9, n9⟩
  simp only [mp, oP_some]
  refine (meets_Apply rm ⟨1, 0, 0, 0, 0⟩ (by rw [hmod]; exact of_decide_eq_true (by kernel_rfl))).mono ?_
  rintro _ h10 ⟨rfl, rm', x10⟩
  simp only [oI_some]
  have l10 : h8.le h10 := fun x O hx => x10 x O (l9 x O hx) (fun hm => by rw [n9 x hm] at hx; cases hx)
  have r10 := r8.le l10
  refine (meets_gAll r10 hlen).mono ?_
  rintro v h11 hv
  rcases hv with ⟨he, _⟩ | ⟨b11, cap', junk', rfl, n11, rfl⟩
  · rw [hent] at he; cases he
  rw [hent]
  simp only [oS_some, List.length_singleton]
  have e11 := PH.upd_same h10 b11 (.cells (recArr enL [callE 1] junk') 90 (0, 0))
  have r11 := r10.le (PH.le_upd (O := .cells (recArr enL [callE 1] junk') 90 (0, 0)) n11)
  have l11 := PH.le_trans l10 (PH.le_upd (O := .cells (recArr enL [callE 1] junk') 90 (0, 0)) n11)
  generalize h10.upd b11 (.cells (recArr enL [callE 1] junk') 90 (0, 0)) = h12 at e11 r11 l11 ⊢
  refine xSc_and true (fun _ J hJ => ?_) ?_
  · refine xIdx_at (by decide) (by decide) ?_
    exact rIa e11 (n := 1) (by simp [recArr, enL, callE]) hJ
  refine xSc_and_le true (fun _ J hJ => ?_) fun h13 l13 => ?_
  · refine (meets_gModel r11).mono ?_
    rintro _ h13 ⟨L', rfl, rm2, l13, _⟩
    simp only [mp, oP_some]
    refine (meets_Owner rm2 0).look ?_
    simp only [oI_some]
    have : ((g2.model.at 0).owner == -1) = true := by rw [hmod]; kernel_rfl
    rw [this]
    exact hJ _ l13
  refine xSc_and true (fun _ J hJ => ?_) ⟨rfl, ?_⟩
  · refine meets_alive15.look ?_
    simp only [oB_some]
    exact hJ
  · exact PH.le_trans le0 (PH.le_trans l4 (PH.le_trans l8 (PH.le_trans l11 l13)))

end Go.Gh
