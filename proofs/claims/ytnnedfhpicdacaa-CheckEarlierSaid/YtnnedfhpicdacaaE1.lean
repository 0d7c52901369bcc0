/-
  What the statements of layer 14 share: events that come in, 'short', 'theirs', 'alive'.
-/
import Derived.Test.YtnnedfhpicdacaaM10
import Derived.Test.YtnnedfhpicdacaaSx12
import Derived.Test.YtnnedfhpicdacaaFE
set_option linter.unusedSimpArgs false
set_option linter.unusedVariables false
namespace Go.Md
open Go Go.Sx Go.Proofs Go.Proofs.Ytnnedfhpicdacaa

/-- Events in a row, wherever. -/
structure EvsAt (h : PH) (a : Option Addr) (l : List Ev) : Prop where
  at_ : ∀ i e, l[i]? = some e → ∃ b, a = some b ∧ h.cell ((b.add (i * 5)).add 0) = some (.int .i64 e.kind) ∧ h.cell ((b.add (i * 5)).add 1) = some (.int .i64 e.thread) ∧ h.cell ((b.add (i * 5)).add 2) = some (.int .i64 e.obj) ∧
    h.cell ((b.add (i * 5)).add 3) = some (.int .i64 e.arg) ∧ h.cell ((b.add (i * 5)).add 4) = some (.int .i64 e.err)
theorem EvsAt.le {h h' : PH} {a : Option Addr} {l : List Ev} (x : EvsAt h a l) (le : h.le h') : EvsAt h' a l := by
  refine ⟨fun i e he => ?_⟩
  obtain ⟨b, hb, h0, h1, h2, h3, h4⟩ := x.at_ i e he
  exact ⟨b, hb, PH.cell_le le h0, PH.cell_le le h1, PH.cell_le le h2, PH.cell_le le h3, PH.cell_le le h4⟩
theorem EvsAt.take {h : PH} {a : Option Addr} {l : List Ev} (x : EvsAt h a l) (n : Nat) : EvsAt h a (l.take n) := by
  refine ⟨fun i e he => x.at_ i e ?_⟩
  rw [List.getElem?_take] at he
  split at he
  · exact he
  · cases he

theorem meets_short14 {h : PH} {a : Option Addr} {l c : Nat} (hc : l ≤ c) : Meets Try.prog 12 #[.slice a l c] h fun v h' => (∃ c', v = .slice a (min l 200) c') ∧ h' = h := by
  apply P_law14_short_of
  unfold P_law14_short xSlice
  have key : (if (200 : Int) < (l : Int) then (200 : Int) else (l : Int)) = ((min l 200 : Nat) : Int) := by
    split <;> omega
  rw [key]
  simp only [Option.getD_none, Option.getD_some, Int.toNat_zero, Nat.zero_mul, Nat.sub_zero, Int.toNat_natCast]
  refine ⟨⟨by omega, by omega, by omega⟩, ⟨c, ?_⟩, by trivial⟩
  congr 1
  split
  · rfl
  · cases a with
    | none => rfl
    | some b => simp [Addr.add]

theorem meets_theirs14 {h : PH} (e : Ev) : Meets Try.prog 15 #[evV e] h fun v h' => v = evV e ∧ h' = h := by
  apply Meets.same
  apply P_law14_theirs_of
  unfold P_law14_theirs
  intro b nb
  have l : h.le _ := PH.le_upd (O := .cells #[.int .i64 e.kind, .int .i64 e.thread, .int .i64 e.obj, .int .i64 e.arg, .int .i64 e.err] 29 (0, 0)) nb
  have eb := PH.upd_same h b (.cells #[.int .i64 e.kind, .int .i64 e.thread, .int .i64 e.obj, .int .i64 e.arg, .int .i64 e.err] 29 (0, 0))
  generalize h.upd b (.cells #[.int .i64 e.kind, .int .i64 e.thread, .int .i64 e.obj, .int .i64 e.arg, .int .i64 e.err] 29 (0, 0)) = h1 at l eb ⊢
  intro b2 nb2
  have q1 : b ≠ b2 := ne_of_known eb nb2
  simp only [xNn_some, add_mk, cell_mk, upd_at, del_at, if_true, if_false, Option.bind_some, List.getElem?_toArray, List.getElem?_cons_succ, List.getElem?_cons_zero, oI_some, oS_some, oM_some, oB_some, oP_some, oT_some, xIdx_some, Nat.zero_add, Nat.add_zero, Nat.mul_one, q1, eb]
  refine xSt_mk (PH.upd_same _ _ _) rfl (by decide) (by simp [oneCell]) (by simp) ?_
  rw [PH.upd_upd, setN5]
  simp only [xNn_some, add_mk, cell_mk, upd_at, del_at, if_true, if_false, Option.bind_some, List.getElem?_toArray, List.getElem?_cons_succ, List.getElem?_cons_zero, oI_some, oS_some, oM_some, oB_some, oP_some, oT_some, xIdx_some, Nat.zero_add, Nat.add_zero, Nat.mul_one]
  exact ⟨rfl, PH.le_trans l (PH.le_upd nb2)⟩

/-- A model of one's own: 'h0' is what was known at first. -/
def MOwn (h0 h : PH) (p : Value) (s : Ms) : Prop := ∃ L, p = mp L ∧ MRep h L s ∧ h0.le h ∧ ∀ b ∈ L.all, h0 b = none
theorem MOwn.of_fresh {h0 h h' : PH} {v : Value} {s : Ms} (l : h0.le h) (f : Fresh h h' v s) : MOwn h0 h' v s := by
  obtain ⟨L, e, r, l', n⟩ := f
  exact ⟨L, e, r, PH.le_trans l l', fun b hb => none_of l (n b hb)⟩
theorem MOwn.base {h0 h : PH} {p : Value} {s : Ms} (o : MOwn h0 h p s) : h0.le h := o.choose_spec.2.2.1
theorem MOwn.ptr {h0 h : PH} {p : Value} {s : Ms} (o : MOwn h0 h p s) : ∃ a, p = .pointer (some a) := by
  obtain ⟨L, rfl, _⟩ := o; exact ⟨_, rfl⟩
theorem MOwn.apply {h0 h : PH} {p : Value} {s : Ms} (o : MOwn h0 h p s) (e : Ev) (few : s.waits.length ≤ 64) :
    Meets Try.prog 14 #[p, evV e] h fun v h' => v = .int .i64 (s.code e) ∧ MOwn h0 h' p (s.next e) := by
  obtain ⟨L, rfl, r, l, n⟩ := o
  refine (meets_Apply r e few).mono ?_
  rintro v h' ⟨rfl, r', x⟩
  exact ⟨rfl, L, rfl, r', fun b O hO => x b O (l b O hO) (fun hm => by rw [n b hm] at hO; cases hO), n⟩
theorem MOwn.owner {h0 h : PH} {p : Value} {s : Ms} (o : MOwn h0 h p s) (x : Int) : Meets Try.prog 18 #[p, .int .i64 x] h fun v h' => v = .int .i64 (s.at x).owner ∧ h' = h := by
  obtain ⟨L, rfl, r, _⟩ := o; exact meets_Owner r x
theorem MOwn.count {h0 h : PH} {p : Value} {s : Ms} (o : MOwn h0 h p s) (x : Int) : Meets Try.prog 19 #[p, .int .i64 x] h fun v h' => v = .int .i64 (s.at x).count ∧ h' = h := by
  obtain ⟨L, rfl, r, _⟩ := o; exact meets_Count r x

theorem meets_alive14 {h : PH} : Meets Try.prog 20 #[] h fun v h' => v = .bool true ∧ h' = h := by
  apply Meets.same
  apply P_law14_alive_of
  unfold P_law14_alive
  refine (meets_New 2 1 3 (by decide)).mono ?_
  rintro _ h1 ⟨w, rfl, f⟩
  have o := MOwn.of_fresh (PH.le_refl h) f
  obtain ⟨a, rfl⟩ := o.ptr
  clear f
  have k1 : (Ms.new 2 1 3).code ⟨1, 0, 0, 0, 0⟩ = 0 := by kernel_rfl
  have k2 : (((Ms.new 2 1 3).next ⟨1, 0, 0, 0, 0⟩).at 0).owner = 0 := by kernel_rfl
  have k3 : (((Ms.new 2 1 3).next ⟨1, 0, 0, 0, 0⟩).at 0).count = 1 := by kernel_rfl
  have k4 : ((Ms.new 2 1 3).next ⟨1, 0, 0, 0, 0⟩).code ⟨1, 1, 0, 0, 0⟩ = 15 := by kernel_rfl
  have k5 : (((Ms.new 2 1 3).next ⟨1, 0, 0, 0, 0⟩).next ⟨1, 1, 0, 0, 0⟩).code ⟨3, 0, 0, 0, 0⟩ = 0 := by kernel_rfl
  have k6 : (((((Ms.new 2 1 3).next ⟨1, 0, 0, 0, 0⟩).next ⟨1, 1, 0, 0, 0⟩).next ⟨3, 0, 0, 0, 0⟩).at 0).owner = -1 := by kernel_rfl
  simp only [oTup_mk, oIx_some, xNn_some, add_mk, cell_mk, upd_at, del_at, if_true, if_false, Option.bind_some, List.getElem?_toArray, List.getElem?_cons_succ, List.getElem?_cons_zero, oI_some, oS_some, oM_some, oB_some, oP_some, oT_some, xIdx_some, Nat.zero_add, Nat.add_zero, Nat.mul_one]
  refine ⟨rfl, xSc_or false (fun _ J hJ => hJ) ⟨fun _ => ?_, fun hx => (by cases hx)⟩⟩
  refine (o.apply ⟨1, 0, 0, 0, 0⟩ (of_decide_eq_true (by kernel_rfl))).mono ?_
  rintro _ h2 ⟨rfl, o⟩
  simp only [oI_some, k1]
  refine xSc_or false (fun _ J hJ => ?_) ?_
  · refine (o.owner 0).look ?_
    simp only [oI_some, k2]
    exact hJ
  refine xSc_or false (fun _ J hJ => ?_) ⟨fun hx => (by cases hx), fun _ => ?_⟩
  · refine (o.count 0).look ?_
    simp only [oI_some, k3]
    exact hJ
  refine (o.apply ⟨1, 1, 0, 0, 0⟩ (of_decide_eq_true (by kernel_rfl))).mono ?_
  rintro _ h3 ⟨rfl, o⟩
  simp only [oI_some, k4]
  refine ⟨fun _ => ?_, fun hx => (by cases hx)⟩
  refine (o.apply ⟨3, 0, 0, 0, 0⟩ (of_decide_eq_true (by kernel_rfl))).mono ?_
  rintro _ h4 ⟨rfl, o⟩
  simp only [oI_some, k5]
  refine xSc_and true (fun _ J hJ => ?_) ⟨rfl, o.base⟩
  refine (o.owner 0).look ?_
  simp only [oI_some, k6]
  exact hJ

def evOf (ns : List Int) : Ev := ⟨ns.getD 0 0, ns.getD 1 0, ns.getD 2 0, ns.getD 3 0, ns.getD 4 0⟩
theorem evsAt_of {h : PH} {a : Option Addr} {rows : List (List Int)} (hl : ∀ ns ∈ rows, ns.length = 5) (hr : ∀ i ns, rows[i]? = some ns → ∃ b, a = some b ∧ ∀ j, j < 5 → h.cell ((b.add (i * 5)).add j) = ns[j]?.map (Value.int .i64)) : EvsAt h a (rows.map evOf) := by
  refine ⟨fun i e he => ?_⟩
  rw [List.getElem?_map] at he
  cases hi : rows[i]? with
  | none => rw [hi] at he; cases he
  | some ns =>
    rw [hi] at he
    simp only [Option.map_some, Option.some.injEq] at he
    obtain ⟨b, hb, hc⟩ := hr i ns hi
    have l5 := hl ns (List.mem_of_getElem? hi)
    have g : ∀ j, j < 5 → ns[j]?.map (Value.int .i64) = some (.int .i64 (ns.getD j 0)) := fun j hj => by
      rw [List.getElem?_eq_getElem (by omega)]; simp [List.getD_eq_getElem?_getD, List.getElem?_eq_getElem (show j < ns.length by omega)]
    subst he
    exact ⟨b, hb, (hc 0 (by omega)).trans (g 0 (by omega)), (hc 1 (by omega)).trans (g 1 (by omega)), (hc 2 (by omega)).trans (g 2 (by omega)), (hc 3 (by omega)).trans (g 3 (by omega)), (hc 4 (by omega)).trans (g 4 (by omega))⟩

end Go.Md
