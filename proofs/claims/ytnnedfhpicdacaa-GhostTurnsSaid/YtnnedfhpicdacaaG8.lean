/-
  Entries that come in; the walk of GhostTurns.
-/
import Derived.Test.YtnnedfhpicdacaaG5
import Derived.Test.YtnnedfhpicdacaaG6
import Derived.Test.YtnnedfhpicdacaaSx16
import Derived.Test.YtnnedfhpicdacaaFT
set_option linter.unusedSimpArgs false
set_option linter.unusedVariables false
namespace Go.Gh
open Go Go.Sx Go.Md Go.Proofs Go.Proofs.Ytnnedfhpicdacaa

/-- Entries in a row, wherever. -/
structure EnsAt (h : PH) (a : Option Addr) (l : List En) : Prop where
  at_ : ∀ (i : Nat) e, l[i]? = some e → ∃ b, a = some b ∧ ∀ (j : Nat) v, (enL e)[j]? = some v → h.cell ((b.add (i * 13)).add j) = some v
theorem EnsAt.le {h h' : PH} {a : Option Addr} {l : List En} (x : EnsAt h a l) (le : h.le h') : EnsAt h' a l := by
  refine ⟨fun i e he => ?_⟩
  obtain ⟨b, hb, hc⟩ := x.at_ i e he
  exact ⟨b, hb, fun j v hv => PH.cell_le le (hc j v hv)⟩
theorem EnsAt.take {h : PH} {a : Option Addr} {l : List En} (x : EnsAt h a l) (n : Nat) : EnsAt h a (l.take n) := by
  refine ⟨fun i e he => x.at_ i e ?_⟩
  rw [List.getElem?_take] at he
  split at he
  · exact he
  · cases he
def enOf (ns : List Int) : En := ⟨ns.getD 0 0, ns.getD 1 0, ns.getD 2 0, ⟨ns.getD 3 0, ns.getD 4 0, ns.getD 5 0⟩, ⟨ns.getD 6 0, ns.getD 7 0, ns.getD 8 0, ns.getD 9 0, ns.getD 10 0⟩, ns.getD 11 0, ns.getD 12 0⟩
theorem enL_of {ns : List Int} (h : ns.length = 13) : enL (enOf ns) = ns.map (Value.int .i64) := by
  match ns, h with
  | [a, b, c, d, e, f, g, i, j, k, l, m, n], _ => rfl
theorem ensAt_of {h : PH} {a : Option Addr} {rows : List (List Int)} (hl : ∀ ns ∈ rows, ns.length = 13) (hr : ∀ i ns, rows[i]? = some ns → ∃ b, a = some b ∧ ∀ j, j < 13 → h.cell ((b.add (i * 13)).add j) = ns[j]?.map (Value.int .i64)) : EnsAt h a (rows.map enOf) := by
  refine ⟨fun i e he => ?_⟩
  rw [List.getElem?_map] at he
  cases hi : rows[i]? with
  | none => rw [hi] at he; cases he
  | some ns =>
    rw [hi] at he
    simp only [Option.map_some, Option.some.injEq] at he
    obtain ⟨b, hb, hc⟩ := hr i ns hi
    have l13 := hl ns (List.mem_of_getElem? hi)
    subst he
    refine ⟨b, hb, fun j v hv => ?_⟩
    rw [enL_of l13, List.getElem?_map] at hv
    have hj : j < 13 := by
      rw [← l13]
      cases hx : ns[j]? with
      | none => rw [hx] at hv; cases hv
      | some x => exact (List.getElem?_eq_some_iff.1 hx).1
    rw [hc j hj]; exact hv

theorem meets_short15 {h : PH} {a : Option Addr} {l c : Nat} (hc : l ≤ c) : Meets Try.prog 34 #[.slice a l c] h fun v h' => (∃ c', v = .slice a (min l 120) c') ∧ h' = h := by
  apply P_law15_short_of
  unfold P_law15_short xSlice
  have key : (if (120 : Int) < (l : Int) then (120 : Int) else (l : Int)) = ((min l 120 : Nat) : Int) := by
    split <;> omega
  rw [key]
  simp only [Option.getD_none, Option.getD_some, Int.toNat_zero, Nat.zero_mul, Nat.sub_zero, Int.toNat_natCast]
  refine ⟨⟨by omega, by omega, by omega⟩, ⟨c, ?_⟩, by trivial⟩
  congr 1
  split
  · rfl
  · cases a with
    | none => rfl
    | some b => simp [Addr.add]

/-- Bools and counts of four threads. -/
def bArr (l : List Bool) : Array Value := (l.map Value.bool).toArray
def iArr (l : List Int) : Array Value := (l.map (Value.int .i64)).toArray
theorem bArr_get {l : List Bool} {n : Nat} (h : n < l.length) : (bArr l)[n]? = some (.bool (l.getD n false)) := by
  simp [bArr, List.getD_eq_getElem?_getD, h]
theorem iArr_get {l : List Int} {n : Nat} (h : n < l.length) : (iArr l)[n]? = some (.int .i64 (l.getD n 0)) := by
  simp [iArr, List.getD_eq_getElem?_getD, h]
theorem bArr_set {l : List Bool} {n : Nat} (b : Bool) : setN (bArr l) n [.bool b] = bArr (l.set n b) := by
  simp [setN, bArr, List.map_set]
theorem iArr_set {l : List Int} {n : Nat} (b : Int) : setN (iArr l) n [.int .i64 b] = iArr (l.set n b) := by
  simp [setN, iArr, List.map_set]

theorem setW_all : ∀ (vs pre c : List Value), c.length = vs.length → setW (pre ++ c) pre.length vs = pre ++ vs := by
  intro vs
  induction vs with
  | nil => intro pre c h; simp at h; subst h; rfl
  | cons v vs ih =>
    intro pre c h
    cases c with
    | nil => cases h
    | cons x c =>
      simp only [setW]
      rw [List.set_append_right _ _ (Nat.le_refl _), Nat.sub_self, List.set_cons_zero]
      have := ih (pre ++ [v]) c (by simpa using h)
      simpa [List.length_append] using this
/-- A whole row written anew. -/
theorem setN_all (c : List Value) (vs : List Value) (h : c.length = vs.length) : setN c.toArray 0 vs = vs.toArray := by
  rw [setN_setW]
  congr 1
  exact setW_all vs [] c h

theorem enL_len (e : En) : (enL e).length = 13 := rfl
theorem efresh_ens {h h' : PH} {v : Value} {l : List En} (f : EFresh h h' v l) : ∃ (q : Option Addr) (c : Nat) (T : List Nat), v = .slice q l.length c ∧ h.le h' ∧ (∀ b ∈ T, h b = none) ∧ ∀ g : PH, (∀ b ∈ T, g b = h' b) → EnsAt g q l := by
  rcases f with ⟨rfl, rfl, rfl⟩ | ⟨b, cap, junk, rfl, nb, rfl⟩
  · exact ⟨none, 0, [], rfl, PH.le_refl _, by simp, fun g _ => ⟨fun i e he => by cases he⟩⟩
  · refine ⟨some ⟨b, 0, none⟩, cap, [b], rfl, PH.le_upd nb, by simpa using nb, fun g hg => ⟨fun i e he => ⟨_, rfl, fun j v hv => ?_⟩⟩⟩
    have eb := (hg b (by simp)).trans (PH.upd_same _ _ _)
    have hj : j < 13 := by
      have := (List.getElem?_eq_some_iff.1 hv).1
      rwa [enL_len] at this
    rw [add_mk, add_mk, cellAt eb, Nat.zero_add, rec_get enL_len e he j hj]
    exact hv
theorem foldlM_prefix {α β : Type} (f : β → α → Option β) : ∀ (l : List α) (a r : β), l.foldlM f a = some r → ∀ k (hk : k < l.length), ∃ m m', (l.take k).foldlM f a = some m ∧ f m l[k] = some m' ∧ (l.take (k + 1)).foldlM f a = some m' := by
  intro l
  induction l with
  | nil => intro a r _ k hk; simp at hk
  | cons x l ih =>
    intro a r h k hk
    rw [List.foldlM_cons] at h
    cases h1 : f a x with
    | none => rw [h1] at h; cases h
    | some y =>
      rw [h1] at h
      cases k with
      | zero => exact ⟨a, y, rfl, h1, by simp [h1]⟩
      | succ k =>
        obtain ⟨m, m', e1, e2, e3⟩ := ih y r h k (by simpa using hk)
        refine ⟨m, m', ?_, e2, ?_⟩
        · rw [List.take_succ_cons, List.foldlM_cons, h1]; exact e1
        · rw [List.take_succ_cons, List.foldlM_cons, h1]; exact e3
theorem ck_len {c c' : Ck} {e : En} (h : c.step e = some c') (h1 : c.opens.length = 4) (h2 : c.calls.length = 4) (h3 : c.commits.length = 4) : c'.opens.length = 4 ∧ c'.calls.length = 4 ∧ c'.commits.length = 4 := by
  unfold Ck.step at h
  split at h
  · cases h
  split at h
  · split at h
    · cases h
    · simp only [Option.some.injEq] at h; subst h; simp [h1, h2, h3]
  split at h
  · split at h
    · simp only [Option.some.injEq] at h; subst h; simp [h1, h2, h3]
    · cases h
  · split at h
    · cases h
    · simp only [Option.some.injEq] at h; subst h; simp [h1, h2, h3]

set_option maxHeartbeats 2000000 in
theorem meets_GhostTurns {h : PH} {a : Option Addr} {l c : Nat} {ens : List En} (hc : l ≤ c) (hl : ens.length = l) (x : EnsAt h a ens) :
    Meets Try.prog 9 #[.slice a l c] h fun v h' => v = .bool true ∧ h' = h := by
  apply Meets.same
  apply P_law15_GhostTurns_of
  unfold P_law15_GhostTurns
  refine (meets_gNew 4 2 3 (by decide)).mono ?_
  rintro _ h1 ⟨w, rfl, f⟩
  have o := GOwn.of_fresh (PH.le_refl h) f
  obtain ⟨p, rfl⟩ := pointer_of o
  clear f
  have k0 := gnew_ok 4 2 3 (by decide) (by decide)
  have t0 := turns_new 2 3
  have len0 : (Gs.new 4 2 3).entries.length = 0 := rfl
  generalize Gs.new 4 2 3 = g0 at o k0 t0 len0
  simp only [oTup_mk, oIx_some, oP_some, oI_some, List.getElem?_toArray, List.getElem?_cons_zero, List.getElem?_cons_succ]
  refine ⟨rfl, xSc_or false (fun _ J hJ => hJ) ⟨fun hx => (by cases hx), fun _ => ?_⟩⟩
  refine (meets_short15 hc).mono ?_
  rintro _ _ ⟨⟨c2, rfl⟩, rfl⟩
  simp only [oS_some]
  have x2 := x.take (min l 120)
  have hl2 : (ens.take (min l 120)).length = min l 120 := by rw [List.length_take]; omega
  have hmax : min l 120 ≤ 120 := by omega
  generalize ens.take (min l 120) = es at x2 hl2
  generalize min l 120 = n at hl2 hmax ⊢
  refine xBlk_split (fun h' => ∃ g : Gs, g.Turns ∧ g.entries.length ≤ 120 ∧ GOwn h h' (.pointer (some p)) g) ?_ fun K hK => ?_
  rotate_left
  · refine xLoop1 (fun (i : Int) h' => 0 ≤ i ∧ i ≤ n ∧ ∃ g : Gs, g.Ok ∧ g.Turns ∧ g.entries.length ≤ i.toNat ∧ GOwn h h' (.pointer (some p)) g) (fun (i : Int) _ => ((n : Int) - i).toNat) ?_ ⟨by omega, by omega, _, k0, t0, by omega, o⟩
    rintro J i h2 ⟨i0, i1, g, ks, ts, len, o⟩ hJ
    refine ⟨fun hx => ?_, fun hx => hK _ ⟨g, ts, by omega, o⟩⟩
    have hx := of_decide_eq_true hx
    have hw : IntKind.wrap .i64 (i + 1) = i + 1 := wrap64_id (by omega) (by omega)
    have hmu : ((n : Int) - (i + 1)).toNat < ((n : Int) - i).toNat := by omega
    have j0 : 0 ≤ i + 1 := by omega
    have j1 : i + 1 ≤ n := by omega
    have j2 : i.toNat + 1 ≤ (i + 1).toNat := by omega
    have hi : i.toNat < es.length := by omega
    have few : g.entries.length ≤ 100000 := by omega
    have step : ∀ h' g', g'.Ok → g'.Turns → g'.entries.length ≤ i.toNat + 1 → GOwn h h' (.pointer (some p)) g' → J (i + 1) h' := fun h' s' k' t' l' o' => hJ _ _ ⟨j0, j1, s', k', t', Nat.le_trans l' j2, o'⟩ hmu
    clear hJ hmu j0 j1 hK
    obtain ⟨b, rfl, hcell⟩ := (x2.le o.base).at_ i.toNat es[i.toNat] (List.getElem?_eq_getElem hi)
    generalize es[i.toNat] = e at hcell
    have c0 := hcell 0 _ rfl
    have c1 := hcell 1 _ rfl
    have c2 := hcell 2 _ rfl
    have c3 := hcell 3 _ rfl
    have c4 := hcell 4 _ rfl
    have c5 := hcell 5 _ rfl
    have c6 := hcell 6 _ rfl
    have c7 := hcell 7 _ rfl
    have c8 := hcell 8 _ rfl
    have c9 := hcell 9 _ rfl
    have c10 := hcell 10 _ rfl
    have c11 := hcell 11 _ rfl
    have c12 := hcell 12 _ rfl
    clear hcell
    refine xBlk_split (fun h' => ∃ g' : Gs, g'.Ok ∧ g'.Turns ∧ g'.entries.length ≤ i.toNat + 1 ∧ GOwn h h' (.pointer (some p)) g') (fun h' ⟨s', k', t', l', o'⟩ => by rw [hw]; exact step h' s' k' t' l' o') fun K hK => ?_
    clear step
    refine ⟨b, rfl, i0, hx, ?_⟩
    simp only [c0, c1, c2, c3, c4, c5, c6, c7, c8, c9, c10, c11, c12, oI_some]
    clear c0 c1 c2 c3 c4 c5 c6 c7 c8 c9 c10 c11 c12
    intro b6 n6
    refine xSt_mk (PH.upd_same _ _ _) rfl (by decide) (by simp [oneCell]) (by simp) ?_
    rw [PH.upd_upd, setN_all _ _ (by rfl)]
    have l3 := PH.le_upd (O := .cells #[.int .i64 e.kind, .int .i64 e.thread, .int .i64 e.number, .int .i64 e.op.kind, .int .i64 e.op.obj, .int .i64 e.op.arg, .int .i64 e.event.kind, .int .i64 e.event.thread, .int .i64 e.event.obj, .int .i64 e.event.arg, .int .i64 e.event.err, .int .i64 e.value, .int .i64 e.err] 88 (0, 0)) n6
    have e3 := PH.upd_same h2 b6 (.cells #[.int .i64 e.kind, .int .i64 e.thread, .int .i64 e.number, .int .i64 e.op.kind, .int .i64 e.op.obj, .int .i64 e.op.arg, .int .i64 e.event.kind, .int .i64 e.event.thread, .int .i64 e.event.obj, .int .i64 e.event.arg, .int .i64 e.event.err, .int .i64 e.value, .int .i64 e.err] 88 (0, 0))
    have o3 := o.le l3
    generalize h2.upd b6 (.cells #[.int .i64 e.kind, .int .i64 e.thread, .int .i64 e.number, .int .i64 e.op.kind, .int .i64 e.op.obj, .int .i64 e.op.arg, .int .i64 e.event.kind, .int .i64 e.event.thread, .int .i64 e.event.obj, .int .i64 e.event.arg, .int .i64 e.event.err, .int .i64 e.value, .int .i64 e.err] 88 (0, 0)) = h3 at l3 e3 o3 ⊢
    simp only [xNn_some, add_mk, cell_mk, upd_at, del_at, if_true, if_false, Option.bind_some, List.getElem?_toArray, List.getElem?_cons_succ, List.getElem?_cons_zero, oI_some, oS_some, oM_some, oB_some, oP_some, oT_some, xIdx_some, Nat.zero_add, Nat.add_zero, Nat.mul_one, e3]
    refine (meets_theirs15 e).look ?_
    simp only [enV, oAgg_mk, xNn_some, add_mk, cell_mk, upd_at, del_at, if_true, if_false, Option.bind_some, List.getElem?_toArray, List.getElem?_cons_succ, List.getElem?_cons_zero, oI_some, oS_some, oM_some, oB_some, oP_some, oT_some, xIdx_some, Nat.zero_add, Nat.add_zero, Nat.mul_one]
    refine ⟨rfl, ?_⟩
    refine (o3.add e few ks.m.few).mono ?_
    rintro _ h5 ⟨rfl, o5⟩
    simp only [oI_some]
    exact hK _ ⟨_, gnext_ok ks e, turns_next ts e, Nat.le_trans (gnext_len g e) (by omega), o5⟩
  clear x2 hl2 hmax o k0 t0 len0
  rintro h2 ⟨g, ⟨ck, hck, _⟩, len, o⟩
  have le2 := o.base
  obtain ⟨G, hG, r, _, _⟩ := o
  rw [hG]
  refine xNew_intro fun b7 h3 l3 n7 f7 => ?_
  refine xNew_intro fun b8 h4 l4 n8 f8 => ?_
  refine xNew_intro fun b9 h5 l5 n9 f9 => ?_
  have r5 := ((r.le l3).le l4).le l5
  have g8 := l5 _ _ f8
  have g7 := l5 _ _ (l4 _ _ f7)
  have n78 : b7 ≠ b8 := ne_of_known f7 n8
  have n89 : b8 ≠ b9 := ne_of_known f8 n9
  have n79 : b7 ≠ b9 := ne_of_known (l4 _ _ f7) n9
  have m7 : h b7 = none := none_of le2 n7
  have m8 : h b8 = none := none_of (PH.le_trans le2 l3) n8
  have m9 : h b9 = none := none_of (PH.le_trans le2 (PH.le_trans l3 l4)) n9
  have le5 : h.le h5 := PH.le_trans le2 (PH.le_trans l3 (PH.le_trans l4 l5))
  clear n7 l3 f7 n8 l4 f8 n9 l5 le2 r
  replace g7 : h5 b7 = some (.cells (bArr ck0.opens) 103 (0, 0)) := g7
  replace g8 : h5 b8 = some (.cells (iArr ck0.calls) 104 (0, 0)) := g8
  replace f9 : h5 b9 = some (.cells (iArr ck0.commits) 104 (0, 0)) := f9
  refine (meets_gAll r5 (by omega)).mono ?_
  rintro v h6 hv
  obtain ⟨q, c3, T, rfl, l6, nT, at6⟩ := efresh_ens hv
  have f7 := l6 _ _ g7
  have f8 := l6 _ _ g8
  have f9' := l6 _ _ f9
  have offT : ∀ x ∈ T, x ∉ [b7, b8, b9] := fun x hx hm => by
    have := nT x hx
    simp only [List.mem_cons, List.not_mem_nil, or_false] at hm
    rcases hm with rfl | rfl | rfl
    · rw [g7] at this; cases this
    · rw [g8] at this; cases this
    · rw [f9] at this; cases this
  have ents : EnsAt (h6.cut [b7, b8, b9]) q g.entries := at6 _ fun b hb => PH.cut_at (offT b hb)
  have lec : h.le (h6.cut [b7, b8, b9]) := fun x O hx => by
    have hm : x ∉ [b7, b8, b9] := fun hm => by
      simp only [List.mem_cons, List.not_mem_nil, or_false] at hm
      rcases hm with rfl | rfl | rfl
      · rw [m7] at hx; cases hx
      · rw [m8] at hx; cases hx
      · rw [m9] at hx; cases hx
    rw [PH.cut_at hm]; exact l6 _ _ (le5 _ _ hx)
  have cutle : (h6.cut [b7, b8, b9]).le h6 := PH.cut_le _ _
  have cno : ∀ b ∈ [b7, b8, b9], (h6.cut [b7, b8, b9]) b = none := fun b hb => by simp only [PH.cut, hb, if_true]
  generalize h6.cut [b7, b8, b9] = hc0 at ents lec cutle cno
  clear hv at6 nT offT l6 g7 g8 f9 le5 m7 m8 m9 r5
  simp only [oS_some]
  generalize hes : g.entries = es at ents hck len
  have kc : hc0 b7 = none ∧ hc0 b8 = none ∧ hc0 b9 = none := ⟨cno _ (by simp), cno _ (by simp), cno _ (by simp)⟩
  clear cno hes hG
  -- what is known between rounds
  let I : Nat → PH → Prop := fun k h' => ∃ c : Ck, (es.take k).foldlM Ck.step ck0 = some c ∧ (c.opens.length = 4 ∧ c.calls.length = 4 ∧ c.commits.length = 4) ∧ h' b7 = some (.cells (bArr c.opens) 103 (0, 0)) ∧ h' b8 = some (.cells (iArr c.calls) 104 (0, 0)) ∧ h' b9 = some (.cells (iArr c.commits) 104 (0, 0)) ∧ hc0.le h'
  have base : I 0 h6 := ⟨ck0, rfl, ⟨rfl, rfl, rfl⟩, f7, f8, f9', cutle⟩
  refine xBlk_split (fun h' => hc0.le h') ?_ fun K hK => ?_
  · intro h7 l7
    refine meets_alive15.look ?_
    simp only [oB_some]
    exact ⟨by trivial, PH.le_trans lec l7⟩
  refine xLoop1 (fun (i : Int) h' => 0 ≤ i ∧ i ≤ es.length ∧ I i.toNat h') (fun (i : Int) _ => ((es.length : Int) - i).toNat) ?_ ⟨by omega, by omega, base⟩
  rintro J i h7 ⟨i0, i1, ck1, hk1, ⟨q1, q2, q3⟩, e7, e8, e9, lc⟩ hJ
  refine ⟨fun hx => ?_, fun hx => hK _ lc⟩
  have hx := of_decide_eq_true hx
  have hw : IntKind.wrap .i64 (i + 1) = i + 1 := wrap64_id (by omega) (by omega)
  have hmu : ((es.length : Int) - (i + 1)).toNat < ((es.length : Int) - i).toNat := by omega
  have hi : i.toNat < es.length := by omega
  have hi1 : (i + 1).toNat = i.toNat + 1 := by omega
  have step : ∀ h', I (i.toNat + 1) h' → J (i + 1) h' := fun h' k' => hJ _ _ ⟨by omega, by omega, by rw [hi1]; exact k'⟩ hmu
  obtain ⟨cm, cm', s1, s2, s3⟩ := foldlM_prefix Ck.step es ck0 _ hck i.toNat hi
  rw [hk1] at s1
  simp only [Option.some.injEq] at s1
  subst s1
  obtain ⟨p1, p2, p3⟩ := ck_len s2 q1 q2 q3
  obtain ⟨b, rfl, hcell⟩ := (ents.le lc).at_ i.toNat es[i.toNat] (List.getElem?_eq_getElem hi)
  generalize es[i.toNat] = e at hcell s2
  have c0 := hcell 0 _ rfl
  have c1 := hcell 1 _ rfl
  have c2 := hcell 2 _ rfl
  have c3 := hcell 3 _ rfl
  have c4 := hcell 4 _ rfl
  have c5 := hcell 5 _ rfl
  have c6 := hcell 6 _ rfl
  have c7 := hcell 7 _ rfl
  have c8 := hcell 8 _ rfl
  have c9 := hcell 9 _ rfl
  have c10 := hcell 10 _ rfl
  have c11 := hcell 11 _ rfl
  have c12 := hcell 12 _ rfl
  clear hcell hJ hmu hK hi1
  refine xBlk_split (fun h' => h' b7 = some (.cells (bArr cm'.opens) 103 (0, 0)) ∧ h' b8 = some (.cells (iArr cm'.calls) 104 (0, 0)) ∧ h' b9 = some (.cells (iArr cm'.commits) 104 (0, 0)) ∧ hc0.le h') (fun h' ⟨a1, a2, a3, a4⟩ => by rw [hw]; exact step h' ⟨cm', s3, ⟨p1, p2, p3⟩, a1, a2, a3, a4⟩) fun K hK => ?_
  refine ⟨b, rfl, i0, hx, ?_⟩
  simp only [c0, c1, c2, c3, c4, c5, c6, c7, c8, c9, c10, c11, c12, oI_some]
  clear c0 c1 c2 c3 c4 c5 c6 c7 c8 c9 c10 c11 c12 step
  intro b11 n11
  refine xSt_mk (PH.upd_same _ _ _) rfl (by decide) (by simp [oneCell]) (by simp) ?_
  rw [PH.upd_upd, setN_all _ _ (by rfl)]
  have l8 := PH.le_upd (O := .cells #[.int .i64 e.kind, .int .i64 e.thread, .int .i64 e.number, .int .i64 e.op.kind, .int .i64 e.op.obj, .int .i64 e.op.arg, .int .i64 e.event.kind, .int .i64 e.event.thread, .int .i64 e.event.obj, .int .i64 e.event.arg, .int .i64 e.event.err, .int .i64 e.value, .int .i64 e.err] 90 (0, 0)) n11
  have e11 := PH.upd_same h7 b11 (.cells #[.int .i64 e.kind, .int .i64 e.thread, .int .i64 e.number, .int .i64 e.op.kind, .int .i64 e.op.obj, .int .i64 e.op.arg, .int .i64 e.event.kind, .int .i64 e.event.thread, .int .i64 e.event.obj, .int .i64 e.event.arg, .int .i64 e.event.err, .int .i64 e.value, .int .i64 e.err] 90 (0, 0))
  have d7 : b7 ≠ b11 := ne_of_known e7 n11
  have d8 : b8 ≠ b11 := ne_of_known e8 n11
  have d9 : b9 ≠ b11 := ne_of_known e9 n11
  replace e7 := l8 _ _ e7
  replace e8 := l8 _ _ e8
  replace e9 := l8 _ _ e9
  replace lc := PH.le_trans lc l8
  generalize h7.upd b11 (.cells #[.int .i64 e.kind, .int .i64 e.thread, .int .i64 e.number, .int .i64 e.op.kind, .int .i64 e.op.obj, .int .i64 e.op.arg, .int .i64 e.event.kind, .int .i64 e.event.thread, .int .i64 e.event.obj, .int .i64 e.event.arg, .int .i64 e.event.err, .int .i64 e.value, .int .i64 e.err] 90 (0, 0)) = h8 at e11 e7 e8 e9 lc ⊢
  clear l8 n11
  simp only [xNn_some, add_mk, cell_mk, upd_at, del_at, if_true, if_false, Option.bind_some, List.getElem?_toArray, List.getElem?_cons_succ, List.getElem?_cons_zero, oI_some, oS_some, oM_some, oB_some, oP_some, oT_some, xIdx_some, Nat.zero_add, Nat.add_zero, Nat.mul_one, e11]
  unfold Ck.step at s2
  split at s2
  · cases s2
  rename_i hr
  have hr : (decide (e.thread < 0) || decide (e.thread > 3)) = false := by simpa using hr
  have r0 : 0 ≤ e.thread ∧ e.thread < 4 := by simp at hr; omega
  have r1 : e.thread.toNat < 4 := by omega
  have u7 : (bArr ck1.opens)[e.thread.toNat]? = some (.bool (ck1.o e.thread)) := bArr_get (by omega)
  have u8 : (iArr ck1.calls)[e.thread.toNat]? = some (.int .i64 (ck1.n e.thread)) := iArr_get (by omega)
  have u9 : (iArr ck1.commits)[e.thread.toNat]? = some (.int .i64 (ck1.k e.thread)) := iArr_get (by omega)
  have z7 : (bArr ck1.opens).size = 4 := by simp [bArr, q1]
  have z8 : (iArr ck1.calls).size = 4 := by simp [iArr, q2]
  have z9 : (iArr ck1.commits).size = 4 := by simp [iArr, q3]
  have hr1 : decide (e.thread < 0) = false := by simp; omega
  have hr2 : decide (e.thread > 3) = false := by simp; omega
  rw [hr1, hr2]
  refine xSc_or false (fun _ J hJ => hJ) ⟨fun hx => (by cases hx), fun _ => ?_⟩
  simp only [xNn_some, add_mk, cell_mk, upd_at, del_at, if_true, if_false, Option.bind_some, List.getElem?_toArray, List.getElem?_cons_succ, List.getElem?_cons_zero, oI_some, oS_some, oM_some, oB_some, oP_some, oT_some, xIdx_some, Nat.zero_add, Nat.add_zero, Nat.mul_one, e11, xBlk, xIdxA]
  refine ⟨fun hk1 => ?_, fun hk1 => ?_⟩
  · -- a Call
    have hk1 := beq_iff_eq.1 hk1
    rw [if_pos hk1] at s2
    split at s2
    · cases s2
    rename_i hb
    simp only [Bool.or_eq_true, not_or, Bool.not_eq_true] at hb
    simp only [Option.some.injEq] at s2
    subst s2
    refine xDraw_self ?_
    simp only [xNn_some, add_mk, cell_mk, upd_at, del_at, if_true, if_false, Option.bind_some, List.getElem?_toArray, List.getElem?_cons_succ, List.getElem?_cons_zero, oI_some, oS_some, oM_some, oB_some, oP_some, oT_some, xIdx_some, Nat.zero_add, Nat.add_zero, Nat.mul_one, e11, e7, e8, e9, u7, u8, u9, hb.1]
    refine ⟨⟨r0.1, r0.2⟩, ?_⟩
    refine xSc_or false (fun _ J hJ => ?_) ⟨fun hx => (by cases hx), fun _ => ?_⟩
    · simp only [xNn_some, add_mk, cell_mk, upd_at, del_at, if_true, if_false, Option.bind_some, List.getElem?_toArray, List.getElem?_cons_succ, List.getElem?_cons_zero, oI_some, oS_some, oM_some, oB_some, oP_some, oT_some, xIdx_some, Nat.zero_add, Nat.add_zero, Nat.mul_one, e11, e7, e8, e9, u7, u8, u9, hb.2]
      exact ⟨⟨r0.1, r0.2⟩, hJ⟩
    refine ⟨⟨r0.1, r0.2⟩, ?_⟩
    refine xSt_mk e7 rfl (by decide) (by simp [oneCell]) (by rw [z7]; simp; omega) ?_
    rw [bArr_set]
    refine ⟨⟨r0.1, r0.2⟩, ?_⟩
    refine xSt_mk ((PH.upd_ne _ _ (Ne.symm n79)).trans e9) rfl (by decide) (by simp [oneCell]) (by rw [z9]; simp; omega) ?_
    rw [iArr_set]
    simp only [xNn_some, add_mk, cell_mk, upd_at, del_at, if_true, if_false, Option.bind_some, List.getElem?_toArray, List.getElem?_cons_succ, List.getElem?_cons_zero, oI_some, oS_some, oM_some, oB_some, oP_some, oT_some, xIdx_some, Nat.zero_add, Nat.add_zero, Nat.mul_one, n78, n89, n79, Ne.symm n78, Ne.symm n79, Ne.symm n89, e8, u8]
    refine ⟨⟨r0.1, r0.2⟩, ⟨r0.1, r0.2⟩, ?_⟩
    refine xSt_mk ((PH.upd_ne _ _ n89).trans ((PH.upd_ne _ _ (Ne.symm n78)).trans e8)) rfl (by decide) (by simp [oneCell]) (by rw [z8]; simp; omega) ?_
    rw [iArr_set]
    refine hK _ ⟨(PH.upd_ne _ _ n78).trans ((PH.upd_ne _ _ n79).trans (PH.upd_same _ _ _)), PH.upd_same _ _ _, (PH.upd_ne _ _ (Ne.symm n89)).trans (PH.upd_same _ _ _), ?_⟩
    exact upd_le_upd kc.2.1 (upd_le_upd kc.2.2 (upd_le_upd kc.1 lc))
  have h1 : e.kind ≠ 1 := by simpa using hk1
  rw [if_neg h1] at s2
  refine ⟨fun hk2 => ?_, fun hk2 => ?_⟩
  · -- a Commit
    have hk2 := beq_iff_eq.1 hk2
    rw [if_pos hk2] at s2
    split at s2
    rotate_left
    · cases s2
    rename_i hb
    simp only [Option.some.injEq] at s2
    subst s2
    simp only [xNn_some, add_mk, cell_mk, upd_at, del_at, if_true, if_false, Option.bind_some, List.getElem?_toArray, List.getElem?_cons_succ, List.getElem?_cons_zero, oI_some, oS_some, oM_some, oB_some, oP_some, oT_some, xIdx_some, Nat.zero_add, Nat.add_zero, Nat.mul_one, e11, e7, e8, e9, u7, u8, u9, hb]
    refine ⟨⟨r0.1, r0.2⟩, fun hx => (by cases hx), fun _ => ?_⟩
    refine ⟨⟨r0.1, r0.2⟩, ?_⟩
    simp only [xNn_some, add_mk, cell_mk, upd_at, del_at, if_true, if_false, Option.bind_some, List.getElem?_toArray, List.getElem?_cons_succ, List.getElem?_cons_zero, oI_some, oS_some, oM_some, oB_some, oP_some, oT_some, xIdx_some, Nat.zero_add, Nat.add_zero, Nat.mul_one, e11, e7, e8, e9, u7, u8, u9]
    refine ⟨⟨r0.1, r0.2⟩, ?_⟩
    refine xSt_mk e9 rfl (by decide) (by simp [oneCell]) (by rw [z9]; simp; omega) ?_
    rw [iArr_set]
    refine hK _ ⟨(PH.upd_ne _ _ n79).trans e7, (PH.upd_ne _ _ n89).trans e8, PH.upd_same _ _ _, ?_⟩
    exact upd_le_upd kc.2.2 lc
  have h2 : e.kind ≠ 2 := by simpa using hk2
  rw [if_neg h2] at s2
  split at s2
  · cases s2
  rename_i hb
  simp only [Bool.or_eq_true, not_or, Bool.not_eq_true, Bool.not_eq_false'] at hb
  obtain ⟨⟨b1, b2⟩, b3⟩ := hb
  have b1 : ck1.o e.thread = true := by simpa using b1
  simp only [Option.some.injEq] at s2
  subst s2
  refine xDraw_self ?_
  simp only [xNn_some, add_mk, cell_mk, upd_at, del_at, if_true, if_false, Option.bind_some, List.getElem?_toArray, List.getElem?_cons_succ, List.getElem?_cons_zero, oI_some, oS_some, oM_some, oB_some, oP_some, oT_some, xIdx_some, Nat.zero_add, Nat.add_zero, Nat.mul_one, e11, e7, e8, e9, u7, u8, u9, b1]
  refine ⟨⟨r0.1, r0.2⟩, ?_⟩
  refine xSc_or false (fun _ J hJ => ?_) ?_
  · simp only [xNn_some, add_mk, cell_mk, upd_at, del_at, if_true, if_false, Option.bind_some, List.getElem?_toArray, List.getElem?_cons_succ, List.getElem?_cons_zero, oI_some, oS_some, oM_some, oB_some, oP_some, oT_some, xIdx_some, Nat.zero_add, Nat.add_zero, Nat.mul_one, e11, e7, e8, e9, u7, u8, u9, b2]
    exact ⟨⟨r0.1, r0.2⟩, hJ⟩
  refine xSc_or false (fun _ J hJ => ?_) ⟨fun hx => (by cases hx), fun _ => ?_⟩
  · simp only [xNn_some, add_mk, cell_mk, upd_at, del_at, if_true, if_false, Option.bind_some, List.getElem?_toArray, List.getElem?_cons_succ, List.getElem?_cons_zero, oI_some, oS_some, oM_some, oB_some, oP_some, oT_some, xIdx_some, Nat.zero_add, Nat.add_zero, Nat.mul_one, e11, e7, e8, e9, u7, u8, u9, b3]
    exact ⟨⟨r0.1, r0.2⟩, hJ⟩
  refine ⟨⟨r0.1, r0.2⟩, ?_⟩
  refine xSt_mk e7 rfl (by decide) (by simp [oneCell]) (by rw [z7]; simp; omega) ?_
  rw [bArr_set]
  exact hK _ ⟨PH.upd_same _ _ _, (PH.upd_ne _ _ (Ne.symm n78)).trans e8, (PH.upd_ne _ _ (Ne.symm n79)).trans e9, upd_le_upd kc.1 lc⟩

end Go.Gh
