/-
  The threads of places, rising: Waiters, Left.
-/
import Derived.Test.YtnnedfhpicdacaaRows
import Derived.Shelf.SlMaps.Clone
import Derived.Test.YtnnedfhpicdacaaJO3
import Derived.Test.YtnnedfhpicdacaaJO4
import Derived.Test.YtnnedfhpicdacaaJO5

set_option linter.unusedSimpArgs false
set_option linter.unusedVariables false
namespace Go.Md
open Go Go.Sx Go.Proofs Go.Proofs.Ytnnedfhpicdacaa

def keyPair : Value → Int × Int
  | .agg ⟨[.int _ p, .int _ q]⟩ => (p, q)
  | _ => (0, 0)
/-- The threads of entries at an object. -/
def thrE (o : Int) (v : List MapEntry) : List Int := ((v.map fun e => keyPair e.key).filter fun p => p.1 == o).map (·.2)
def thrP {α : Type} (o : Int) (l : Pl α) : List Int := (l.filter fun p => p.1 == o).map (·.2.1)

theorem thrE_snoc (o : Int) (v : List MapEntry) (e : MapEntry) : thrE o (v ++ [e]) = thrE o v ++ (if (keyPair e.key).1 = o then [(keyPair e.key).2] else []) := by
  unfold thrE
  simp only [List.map_append, List.filter_append, List.map_cons, List.map_nil, List.filter_cons, List.filter_nil]
  by_cases h : (keyPair e.key).1 = o <;> simp [h]
theorem thrE_len (o : Int) (v : List MapEntry) : (thrE o v).length ≤ v.length := by
  unfold thrE
  rw [List.length_map]
  exact Nat.le_trans (List.length_filter_le _ _) (by simp)
theorem thrE_ents {α : Type} {enc : α → Value} {es : List MapEntry} {l : Pl α} (h : Ents enc es l) (o : Int) : thrE o es = thrP o l := by
  have e1 : es.map (fun e => keyPair (MapEntry.key e)) = l.map fun p => (p.1, p.2.1) := by
    have := congrArg (List.map fun x : Value × Value => keyPair x.1) h
    simpa [List.map_map, Function.comp_def, key2, keyPair] using this
  unfold thrE thrP
  rw [e1, List.filter_map, List.map_map]
  rfl
theorem thrE_perm (o : Int) {v w : List MapEntry} (h : v.Perm w) : (thrE o v).Perm (thrE o w) := ((h.map _).filter _).map _

theorem sortI_perm {l m : List Int} (h : l.Perm m) : sortI l = sortI m := by
  have tot : ∀ a b : Int, (decide (a ≤ b) || decide (b ≤ a)) = true := fun a b => by simp; omega
  have tr : ∀ a b c : Int, decide (a ≤ b) = true → decide (b ≤ c) = true → decide (a ≤ c) = true := fun a b c => by simp; omega
  have p1 := List.mergeSort_perm l fun x y => decide (x ≤ y)
  have p2 := List.mergeSort_perm m fun x y => decide (x ≤ y)
  have s1 := List.pairwise_mergeSort tr tot l
  have s2 := List.pairwise_mergeSort tr tot m
  unfold sortI
  refine List.Perm.eq_of_pairwise (le := fun a b : Int => decide (a ≤ b) = true) ?_ s1 s2 (p1.trans (h.trans p2.symm))
  intro a b _ _ h1 h2
  simp at h1 h2; omega

theorem perm_of_once {α : Type} {v w : List α} (h1 : v.Nodup) (h2 : w.Nodup) (h : ∀ e, e ∈ w ↔ e ∈ v) : v.Perm w := by
  classical
  exact (List.perm_ext_iff_of_nodup h1 h2).2 fun a => (h a).symm

theorem Stamps.nodup {es : List MapEntry} {cl : Nat} (s : Stamps es cl) : es.Nodup := by
  have := s.nd
  exact List.Pairwise.of_map _ (fun a b hne e => hne (by rw [e])) this

/-- Integers told. -/
def IntsAt (h0 h : PH) (v : Value) (l : List Int) : Prop := ∃ p n c S, v = .slice p n c ∧ IntsIn h p n c l S ∧ h0.le h ∧ ∀ b ∈ S, h0 b = none

section
variable (o : Int) (b3 b5 bd l : Nat) (r0 : Loop)
/-- What the one who ranges has. -/
def ThrI (v : List MapEntry) (S : List Nat) (h : PH) : Prop :=
  h b3 = some (.cells #[.int .i64 o] 3 (0, 0)) ∧ h bd = some (.deferred (some [])) ∧ h l = some (.loop r0) ∧ ∃ p n c T, h b5 = some (.cells #[.slice p n c] 47 (0, 0)) ∧ IntsIn h p n c (thrE o v) T ∧ S = [b3, b5, bd, l] ++ T ∧ (∀ x ∈ T, x ∉ [b3, b5, bd, l])
end
theorem thrI_kept (o : Int) (b3 b5 bd l : Nat) (r0 : Loop) : Kept (ThrI o b3 b5 bd l r0) := by
  constructor
  · rintro v S h h' ⟨e3, ed, el, p, n, c, T, e5, i, rfl, d⟩ hk
    refine ⟨(hk _ (by simp)).trans e3, (hk _ (by simp)).trans ed, (hk _ (by simp)).trans el, p, n, c, T, (hk _ (by simp)).trans e5, i.of fun b hb => hk _ (by simp [hb]), rfl, d⟩
  · rintro v S h ⟨e3, ed, el, p, n, c, T, e5, i, rfl, d⟩ b hb
    rcases List.mem_append.1 hb with hb | hb
    · simp only [List.mem_cons, List.not_mem_nil, or_false] at hb
      rcases hb with rfl | rfl | rfl | rfl
      · rw [e3]; simp
      · rw [e5]; simp
      · rw [ed]; simp
      · rw [el]; simp
    · exact i.known b hb

theorem nd4 {a b c d : Nat} (h : [a, b, c, d].Nodup) : a ≠ b ∧ a ≠ c ∧ a ≠ d ∧ b ≠ c ∧ b ≠ d ∧ c ≠ d := by
  simp only [List.nodup_cons, List.mem_cons, List.not_mem_nil, or_false, not_or, not_false_eq_true, List.nodup_nil, and_true] at h
  obtain ⟨⟨a, b, c⟩, ⟨d, e⟩, f⟩ := h
  exact ⟨a, b, c, d, e, f⟩

theorem thr_round {o p q : Int} {b3 b5 bd l : Nat} {r0 : Loop} (nd : [b3, b5, bd, l].Nodup) (hr : r0.state = .ready) (hp : r0.pending = none) {v : List MapEntry} {S : List Nat} {h1 : PH} {e : MapEntry} (hI : ThrI o b3 b5 bd l r0 v S h1) (hk : e.key = key2 p q) (few : v.length ≤ 1000000)
    (y8 : Value) (y7 y0 : Option Nat) (y4 : Option Addr) (y41 y42 : Nat) :
    R_model_threads_int y8 y7 ⟨b5, 0, none⟩ y4 y41 y42 ⟨b3, 0, none⟩ y0 o p q r0 l h1 fun r h2 => r = .bool true ∧ ∃ S', ThrI o b3 b5 bd l r0 (v ++ [e]) S' h2 ∧ Ext S h1 h2 ∧ ∀ b ∈ S', b ∈ S ∨ h1 b = none := by
  obtain ⟨n35, n3d, n3l, n5d, n5l, ndl⟩ := nd4 nd
  obtain ⟨e3, ed, el, sp, sn, sc, T, e5, i, rfl, dj⟩ := hI
  have kp : keyPair e.key = (p, q) := by rw [hk]; rfl
  unfold R_model_threads_int
  intro b6 n6
  refine xSt_mk (PH.upd_same _ _ _) rfl (by decide) (by simp [oneCell]) (by simp) ?_
  rw [PH.upd_upd, setN2]
  have l5 := PH.le_upd (O := .cells #[.int .i64 p, .int .i64 q] 122 (0, 0)) n6
  have e6 := PH.upd_same h1 b6 (.cells #[.int .i64 p, .int .i64 q] 122 (0, 0))
  generalize h1.upd b6 (.cells #[.int .i64 p, .int .i64 q] 122 (0, 0)) = h5 at l5 e6 ⊢
  have f3 := l5 _ _ e3
  have fd := l5 _ _ ed
  have fl := l5 _ _ el
  have f5 := l5 _ _ e5
  have n6l : b6 ≠ l := fun h => by subst h; rw [n6] at el; cases el
  have n63 : b6 ≠ b3 := fun h => by subst h; rw [n6] at e3; cases e3
  have n65 : b6 ≠ b5 := fun h => by subst h; rw [n6] at e5; cases e5
  have iT : ∀ x ∈ T, x ≠ b6 ∧ x ≠ l ∧ x ≠ b5 := by
    intro x hx
    have := dj x hx
    simp only [List.mem_cons, List.not_mem_nil, or_false, not_or] at this
    refine ⟨fun h => ?_, this.2.2.2, this.2.1⟩
    subst h
    exact i.known _ hx n6
  have eT : ∀ x ∈ T, h5 x = h1 x := by
    intro x hx
    cases hh : h1 x with
    | none => exact absurd hh (i.known x hx)
    | some O => exact l5 _ _ hh
  refine ⟨fl, ?_⟩
  -- the record is busy
  have g6 : (h5.upd l (.loop { r0 with state := .busy })) b6 = _ := (PH.upd_ne _ _ n6l).trans e6
  have g3 : (h5.upd l (.loop { r0 with state := .busy })) b3 = _ := (PH.upd_ne _ _ n3l).trans f3
  have g5 : (h5.upd l (.loop { r0 with state := .busy })) b5 = _ := (PH.upd_ne _ _ n5l).trans f5
  have gd : (h5.upd l (.loop { r0 with state := .busy })) bd = _ := (PH.upd_ne _ _ ndl).trans fd
  have gl := PH.upd_same h5 l (.loop { r0 with state := .busy })
  have gT : ∀ x ∈ T, (h5.upd l (.loop { r0 with state := .busy })) x = h1 x := fun x hx => (PH.upd_ne _ _ (iT x hx).2.1).trans (eT x hx)
  have gx : ∀ x O, h1 x = some O → x ≠ l → (h5.upd l (.loop { r0 with state := .busy })) x = some O := fun x O hx hn => (PH.upd_ne _ _ hn).trans (l5 _ _ hx)
  generalize h5.upd l (.loop { r0 with state := .busy }) = h6 at g6 g3 g5 gd gl gT gx ⊢
  have i6 := i.of gT
  simp only [xNn_some, add_mk, cell_mk, upd_at, del_at, if_true, if_false, Option.bind_some, List.getElem?_toArray, List.getElem?_cons_succ, List.getElem?_cons_zero, oI_some, oS_some, oM_some, oB_some, oP_some, oT_some, xIdx_some, Nat.zero_add, Nat.add_zero, Nat.mul_one, g6, g3]
  have back : (.loop { ({ r0 with state := .busy } : Loop) with state := .ready, pending := none } : Obj) = .loop r0 := by
    obtain ⟨st0, pd, fn0, tm0, pr0, as0, bd0, df0⟩ := r0
    dsimp only at hr hp ⊢
    subst hr; subst hp; rfl
  refine xBlk_split (fun h' => ∃ T', h' b3 = some (.cells #[.int .i64 o] 3 (0, 0)) ∧ h' bd = some (.deferred (some [])) ∧ h' l = some (.loop { r0 with state := .busy }) ∧ (∃ p n c, h' b5 = some (.cells #[.slice p n c] 47 (0, 0)) ∧ IntsIn h' p n c (thrE o (v ++ [e])) T') ∧ (∀ x ∈ T', x ∉ [b3, b5, bd, l]) ∧ (∀ x O, h1 x = some O → x ∉ [b3, b5, bd, l] ++ T → h' x = some O) ∧ ∀ x ∈ T', x ∈ T ∨ h1 x = none) ?_ ?_
  · rintro h' ⟨T', a3, ad, al, ⟨p', n', c', a5, i'⟩, dj', fr, nw⟩
    refine ⟨al, by trivial, [b3, b5, bd, l] ++ T', ⟨(PH.upd_ne _ _ n3l).trans a3, (PH.upd_ne _ _ ndl).trans ad, ?_, p', n', c', T', (PH.upd_ne _ _ n5l).trans a5, i'.of fun x hx => PH.upd_ne _ _ fun hh => ?_, rfl, dj'⟩, ?_, ?_⟩
    · exact (PH.upd_same _ _ _).trans (congrArg some back)
    · have := dj' x hx
      simp [hh] at this
    · intro x O hx hm
      have hxl : x ≠ l := fun hh => hm (by simp [hh])
      rw [PH.upd_ne _ _ hxl]
      exact fr x O hx hm
    · intro x hx
      rcases List.mem_append.1 hx with hx | hx
      · exact .inl (List.mem_append_left _ hx)
      · rcases nw x hx with h | h
        · exact .inl (List.mem_append_right _ h)
        · exact .inr h
  intro K' hK'
  have frame : ∀ x O, h1 x = some O → x ∉ [b3, b5, bd, l] ++ T → h6 x = some O := fun x O hx hm => gx x O hx fun hh => hm (by simp [hh])
  refine ⟨fun hc => ?_, fun hc => ?_⟩
  · -- a thread at the object
    have hc : p = o := by simpa using hc
    simp only [xNn_some, add_mk, cell_mk, upd_at, del_at, if_true, if_false, Option.bind_some, List.getElem?_toArray, List.getElem?_cons_succ, List.getElem?_cons_zero, oI_some, oS_some, oM_some, oB_some, oP_some, oT_some, xIdx_some, Nat.zero_add, Nat.add_zero, Nat.mul_one, g5, g6]
    intro b17 n17
    have l7 := PH.le_upd (O := .cells #[.int .i64 q] 3 (0, 0)) n17
    have e17 := PH.upd_same h6 b17 (.cells #[.int .i64 q] 3 (0, 0))
    generalize h6.upd b17 (.cells #[.int .i64 q] 3 (0, 0)) = h7 at l7 e17 ⊢
    have i7 := i6.of (h' := h7) fun x hx => by
      cases hh : h6 x with
      | none => exact absurd hh (i6.known x hx)
      | some O => exact l7 _ _ hh
    refine i7.app e17 (Nat.le_trans (thrE_len _ _) few) ?_
    intro p' n' c' h8 S' i8 x8 nw8
    have n17x : ∀ {x : Nat} {O : Obj}, h6 x = some O → x ∉ T → h8 x = some O := fun hx hm => x8 _ _ (l7 _ _ hx) hm
    have offT : ∀ {x : Nat}, x ∈ [b3, b5, bd, l] → x ∉ T := fun hx hm => dj _ hm hx
    have k3 := n17x g3 (offT (by simp))
    have k5 := n17x g5 (offT (by simp))
    have kd := n17x gd (offT (by simp))
    have kl := n17x gl (offT (by simp))
    have newS : ∀ x ∈ S', x ∈ T ∨ h6 x = none := by
      intro x hx
      rcases nw8 x hx with h | h
      · exact .inl h
      · right
        cases hh : h6 x with
        | none => rfl
        | some O => rw [l7 _ _ hh] at h; cases h
    have offS : ∀ {x : Nat} {O : Obj}, h6 x = some O → x ∉ T → x ∉ S' := fun hx hm hs => by
      rcases newS _ hs with h | h
      · exact hm h
      · rw [hx] at h; cases h
    refine xSt_mk k5 rfl (by decide) (by simp [oneCell]) (by simp) ?_
    have s1 : setN #[Value.slice sp sn sc] 0 [.slice p' n' c'] = #[.slice p' n' c'] := rfl
    rw [s1]
    refine hK' _ ⟨S', (PH.upd_ne _ _ n35).trans k3, (PH.upd_ne _ _ (Ne.symm n5d)).trans kd, (PH.upd_ne _ _ (Ne.symm n5l)).trans kl, ⟨p', n', c', PH.upd_same _ _ _, ?_⟩, ?_, ?_, ?_⟩
    · rw [thrE_snoc, kp, if_pos hc]
      exact i8.of fun x hx => PH.upd_ne _ _ fun hh => by subst hh; exact offS g5 (offT (by simp)) hx
    · intro x hx hm
      simp only [List.mem_cons, List.not_mem_nil, or_false] at hm
      rcases hm with rfl | rfl | rfl | rfl
      · exact offS g3 (offT (by simp)) hx
      · exact offS g5 (offT (by simp)) hx
      · exact offS gd (offT (by simp)) hx
      · exact offS gl (offT (by simp)) hx
    · intro x O hx hm
      have h6x := frame x O hx hm
      have hx5 : x ≠ b5 := fun hh => hm (by simp [hh])
      rw [PH.upd_ne _ _ hx5]
      exact n17x h6x fun ht => hm (List.mem_append_right _ ht)
    · intro x hx
      rcases newS x hx with h | h
      · exact .inl h
      · by_cases hm : x ∈ [b3, b5, bd, l] ++ T
        · rcases List.mem_append.1 hm with hm | hm
          · exfalso
            simp only [List.mem_cons, List.not_mem_nil, or_false] at hm
            rcases hm with rfl | rfl | rfl | rfl
            · rw [g3] at h; cases h
            · rw [g5] at h; cases h
            · rw [gd] at h; cases h
            · rw [gl] at h; cases h
          · exact .inl hm
        · right
          cases hh : h1 x with
          | none => rfl
          | some O => rw [frame x O hh hm] at h; cases h
  · have hc : ¬p = o := by simpa using hc
    refine hK' _ ⟨T, g3, gd, gl, ⟨sp, sn, sc, g5, ?_⟩, dj, frame, fun x hx => .inl hx⟩
    rw [thrE_snoc, kp, if_neg hc, List.append_nil]
    exact i6


theorem thr_round_left {o p q : Int} {b3 b5 bd l : Nat} {r0 : Loop} (nd : [b3, b5, bd, l].Nodup) (hr : r0.state = .ready) (hp : r0.pending = none) {v : List MapEntry} {S : List Nat} {h1 : PH} {e : MapEntry} (hI : ThrI o b3 b5 bd l r0 v S h1) (hk : e.key = key2 p q) (few : v.length ≤ 1000000)
    (y8 : Value) (y7 y0 : Option Nat) (y4 : Option Addr) (y41 y42 : Nat) :
    R_model_threads_model_left y8 y7 ⟨b5, 0, none⟩ y4 y41 y42 ⟨b3, 0, none⟩ y0 o p q r0 l h1 fun r h2 => r = .bool true ∧ ∃ S', ThrI o b3 b5 bd l r0 (v ++ [e]) S' h2 ∧ Ext S h1 h2 ∧ ∀ b ∈ S', b ∈ S ∨ h1 b = none := thr_round nd hr hp hI hk few y8 y7 y0 y4 y41 y42

theorem meets_threads_waits {h : PH} {b : Nat} {l : Pl Int} (r : MapRep encI h b l) (few : l.length ≤ 64) (o : Int) : Meets Try.prog 59 #[.map (some b), .int .i64 o] h fun v h' => IntsAt h h' v (sortI (thrP o l)) := by
  obtain ⟨es, cl, eb, en, st⟩ := r
  have elen : es.toList.length = l.length := by
    have := congrArg List.length en
    simpa using this
  apply P_model_threads_int_of
  unfold P_model_threads_int
  intro b3 n3
  have e3 := PH.upd_same h b3 (.cells #[.int .i64 o] 3 (0, 0))
  have l1 := PH.le_upd (O := .cells #[.int .i64 o] 3 (0, 0)) n3
  generalize h.upd b3 (.cells #[.int .i64 o] 3 (0, 0)) = h1 at e3 l1 ⊢
  intro b5 n5
  have e5 := PH.upd_same h1 b5 (.cells #[.slice none 0 0] 47 (0, 0))
  have l2 := PH.le_upd (O := .cells #[.slice none 0 0] 47 (0, 0)) n5
  generalize h1.upd b5 (.cells #[.slice none 0 0] 47 (0, 0)) = h2 at e5 l2 ⊢
  have f3 := l2 _ _ e3
  have m5 : h b5 = none := none_of l1 n5
  have n35 : b3 ≠ b5 := ne_of_known e3 n5
  have eb2 := l2 _ _ (l1 _ _ eb)
  apply P_maps_Keys_map_model_place_int_model_place_int_of
  unfold P_maps_Keys_map_model_place_int_model_place_int
  intro c0 nc
  have ec := PH.upd_same h2 c0 (.cells #[.map (some b)] 42 (0, 0))
  have l3 := PH.le_upd (O := .cells #[.map (some b)] 42 (0, 0)) nc
  generalize h2.upd c0 (.cells #[.map (some b)] 42 (0, 0)) = h3 at ec l3 ⊢
  simp only [oV_some]
  refine ⟨105, [.pointer (some ⟨c0, 0, none⟩)], rfl, by kernel_rfl, ?_⟩
  intro fn tmps bd lp hsz hfit nd nl hdl
  have g3 := l3 _ _ f3
  have g5 := l3 _ _ e5
  have eb3 := l3 _ _ eb2
  have le3 := PH.le_trans l1 (PH.le_trans l2 l3)
  have md : h bd = none := none_of le3 nd
  have ml : h lp = none := none_of le3 nl
  have n3d : b3 ≠ bd := ne_of_known g3 nd
  have n3l : b3 ≠ lp := ne_of_known g3 nl
  have n5d : b5 ≠ bd := ne_of_known g5 nd
  have n5l : b5 ≠ lp := ne_of_known g5 nl
  have ncd : c0 ≠ bd := ne_of_known ec nd
  have ncl : c0 ≠ lp := ne_of_known ec nl
  have nbd : b ≠ bd := ne_of_known eb3 nd
  have nbl : b ≠ lp := ne_of_known eb3 nl
  have nd4' : [b3, b5, bd, lp].Nodup := by simp [n35, n3d, n3l, n5d, n5l, hdl]
  have lv : ∀ O O', h3.le ((h3.upd bd O).upd lp O') := fun O O' => PH.le_trans (PH.le_upd nd) (PH.le_upd ((PH.upd_ne _ _ (Ne.symm hdl)).trans nl))
  generalize hr0 : ({ state := .ready, pending := none, fn := fn, tmps := tmps, params := #[9], assign := rfAssign Try.f59, body := rfBody Try.f59, defers := bd } : Loop) = r0
  have q1 : r0.state = .ready := by rw [← hr0]
  have q2 : r0.pending = none := by rw [← hr0]
  have bnot : b ∉ [b3, b5, bd, lp] := by
    simp only [List.mem_cons, List.not_mem_nil, or_false, not_or]
    exact ⟨fun hh => (by subst hh; rw [n3] at eb; cases eb), fun hh => (by subst hh; rw [m5] at eb; cases eb), nbd, nbl⟩
  have h0 : ThrI o b3 b5 bd lp r0 [] [b3, b5, bd, lp] ((h3.upd bd (.deferred (some []))).upd lp (.loop r0)) := by
    refine ⟨lv _ _ _ _ g3, (PH.upd_ne _ _ hdl).trans (PH.upd_same _ _ _), PH.upd_same _ _ _, none, 0, 0, [], lv _ _ _ _ g5, IntsIn.nil _, by simp, by simp⟩
  refine (meets_keys_waits (thrI_kept o b3 b5 bd lp r0) (lv _ _ _ _ eb3) (lv _ _ _ _ ec) st en.keys bnot h0 ?_).mono ?_
  · intro v S hh e hI he nv sv
    obtain ⟨p, q, hk⟩ := en.keys e he
    have few' : v.length ≤ 1000000 := by
      have := nodup_le nv sv
      rw [List.length_append] at this
      simp only [List.length_singleton] at this
      omega
    have rd := thr_round nd4' q1 q2 hI hk few' (.func (.func 105) #[] #[.pointer (some ⟨c0, 0, none⟩)]) (some b) (some b) none 0 0
    have rd' := (R_model_threads_int_eq _ _ _ _ _ _ _ _ _ _ _ _ _ _ _).mpr rd
    rw [hk]
    have hl := hI.2.2.1
    subst hr0
    refine yield_of2 (e0 := [(9, key2 p q), (8, .func (.func 105) #[] #[.pointer (some ⟨c0, 0, none⟩)]), (7, .map (some b)), (5, .pointer (some ⟨b5, 0, none⟩)), (4, .slice none 0 0), (3, .pointer (some ⟨b3, 0, none⟩)), (0, .map (some b)), (1, .int .i64 o)]) (annA := AA_model_threads_int) (annB := AB_model_threads_int) (m := 22) rfl rfl hl rfl rfl (fits_round hfit (show 9 < tmps.size by omega)) ?_ (by kernel_rfl) (by kernel_rfl) ?_
    · simpa using hsz
    · exact rd'
  · rintro v hh ⟨rfl, w, S, ⟨k3, kd, kl, p, n, c, T, k5, i, rfl, dj⟩, hmem, nw, xt, nw0⟩
    refine ⟨r0, kl, by rw [q1]; simp, q2, ?_⟩
    have hx := PH.upd_ne hh (.loop { r0 with state := .exhausted }) n5l
    have hd := PH.upd_ne hh (.loop { r0 with state := .exhausted }) (Ne.symm (Ne.symm hdl))
    have hT : ∀ x ∈ T, (hh.upd lp (.loop { r0 with state := .exhausted })) x = hh x := fun x ht => PH.upd_ne _ _ fun e => by subst e; have := dj _ ht; simp at this
    have off4 : ∀ x O, h x = some O → x ∉ [b3, b5, bd, lp] := fun x O hx' hm => by
      simp only [List.mem_cons, List.not_mem_nil, or_false] at hm
      rcases hm with rfl | rfl | rfl | rfl
      · rw [n3] at hx'; cases hx'
      · rw [m5] at hx'; cases hx'
      · rw [md] at hx'; cases hx'
      · rw [ml] at hx'; cases hx'
    have fr : h.le (hh.upd lp (.loop { r0 with state := .exhausted })) := fun x O hx' => by
      have hm := off4 x O hx'
      have hl' : x ≠ lp := fun e => hm (by simp [e])
      rw [PH.upd_ne _ _ hl']
      exact xt x O (lv _ _ _ _ (le3 _ _ hx')) hm
    have nT : ∀ x ∈ T, h x = none := fun x ht => by
      rcases nw0 x (List.mem_append_right _ ht) with h' | h'
      · exact absurd h' (dj x ht)
      · cases hh' : h x with
        | none => rfl
        | some O => rw [lv _ _ _ _ (le3 _ _ hh')] at h'; cases h'
    have ndT : ∀ x ∈ T, x ≠ bd ∧ x ≠ b5 := fun x ht => by have := dj x ht; simp only [List.mem_cons, List.not_mem_nil, or_false, not_or] at this; exact ⟨this.2.2.1, this.2.1⟩
    have k5' := hx.trans k5
    have kd' := hd.trans kd
    have i' := i.of hT
    clear hx hd hT
    generalize hh.upd lp (.loop { r0 with state := .exhausted }) = h11 at k5' kd' i' fr ⊢
    have hsrt : sortI (thrE o w) = sortI (thrP o l) := by
      rw [← thrE_ents en o]
      exact sortI_perm (thrE_perm o (perm_of_once nw st.nodup (fun e => hmem e)))
    have hlen : (thrE o w).length < 4611686018427387904 := by
      have h1 := nodup_le nw (fun e he => (hmem e).2 he)
      have h2 := thrE_len o w
      omega
    simp only [xNn_some, add_mk, cell_mk, upd_at, del_at, if_true, if_false, Option.bind_some, List.getElem?_toArray, List.getElem?_cons_succ, List.getElem?_cons_zero, oI_some, oS_some, oM_some, oB_some, oP_some, oT_some, xIdx_some, Nat.zero_add, Nat.add_zero, Nat.mul_one, k5']
    obtain ⟨rfl, ⟨hv, rfl, rfl, rfl⟩ | ⟨bo, junk, rfl, eo, hc, hj, rfl⟩⟩ := i'
    · rw [hv] at hsrt k5' ⊢
      refine (meets_sort_nil none 0).look ?_
      simp only [xNn_some, add_mk, cell_mk, upd_at, del_at, if_true, if_false, Option.bind_some, List.getElem?_toArray, List.getElem?_cons_succ, List.getElem?_cons_zero, oI_some, oS_some, oM_some, oB_some, oP_some, oT_some, xIdx_some, Nat.zero_add, Nat.add_zero, Nat.mul_one, k5', oTup_mk]
      refine ⟨rfl, ⟨kd', trivial⟩, ?_⟩
      rw [← hsrt]
      refine ⟨none, 0, 0, [], rfl, (by rw [show sortI [] = [] from by simp [sortI]]; exact IntsIn.nil _), ?_, by simp⟩
      exact fun x O hx' => (PH.upd_ne _ _ fun e => by subst e; rw [md] at hx'; cases hx').trans (fr _ _ hx')
    · have nbo := nT bo (by simp)
      obtain ⟨bo1, bo2⟩ := ndT bo (by simp)
      refine (meets_sort c eo hlen).mono ?_
      rintro _ _ ⟨rfl, rfl⟩
      simp only [xNn_some, add_mk, cell_mk, upd_at, del_at, if_true, if_false, Option.bind_some, List.getElem?_toArray, List.getElem?_cons_succ, List.getElem?_cons_zero, oI_some, oS_some, oM_some, oB_some, oP_some, oT_some, xIdx_some, Nat.zero_add, Nat.add_zero, Nat.mul_one, oTup_mk, Ne.symm bo2, k5']
      refine ⟨rfl, ⟨(PH.upd_ne _ _ (Ne.symm bo1)).trans kd', trivial⟩, ?_⟩
      refine ⟨some ⟨bo, 0, none⟩, _, c, [bo], rfl, ⟨by rw [← hsrt, sortI_length], .inr ⟨bo, junk, rfl, ?_, by rw [← hsrt, sortI_length]; exact hc, by rw [← hsrt, sortI_length]; exact hj, rfl⟩⟩, ?_, by simp [nbo]⟩
      · show ((h11.upd bo _).upd bd _) bo = _
        rw [PH.upd_ne _ _ bo1, PH.upd_same, hsrt]
      · intro x O hx'
        have h1 : x ≠ bd := fun e => by subst e; rw [md] at hx'; cases hx'
        have h2 : x ≠ bo := fun e => by subst e; rw [nbo] at hx'; cases hx'
        show ((h11.upd bo _).upd bd _) x = _
        rw [PH.upd_ne _ _ h1, PH.upd_ne _ _ h2]
        exact fr _ _ hx'

theorem meets_threads_left {h : PH} {b : Nat} {l : Pl (Int × Int)} (r : MapRep encL h b l) (few : l.length ≤ 64) (o : Int) : Meets Try.prog 60 #[.map (some b), .int .i64 o] h fun v h' => IntsAt h h' v (sortI (thrP o l)) := by
  obtain ⟨es, cl, eb, en, st⟩ := r
  have elen : es.toList.length = l.length := by
    have := congrArg List.length en
    simpa using this
  apply P_model_threads_model_left_of
  unfold P_model_threads_model_left
  intro b3 n3
  have e3 := PH.upd_same h b3 (.cells #[.int .i64 o] 3 (0, 0))
  have l1 := PH.le_upd (O := .cells #[.int .i64 o] 3 (0, 0)) n3
  generalize h.upd b3 (.cells #[.int .i64 o] 3 (0, 0)) = h1 at e3 l1 ⊢
  intro b5 n5
  have e5 := PH.upd_same h1 b5 (.cells #[.slice none 0 0] 47 (0, 0))
  have l2 := PH.le_upd (O := .cells #[.slice none 0 0] 47 (0, 0)) n5
  generalize h1.upd b5 (.cells #[.slice none 0 0] 47 (0, 0)) = h2 at e5 l2 ⊢
  have f3 := l2 _ _ e3
  have m5 : h b5 = none := none_of l1 n5
  have n35 : b3 ≠ b5 := ne_of_known e3 n5
  have eb2 := l2 _ _ (l1 _ _ eb)
  apply P_maps_Keys_map_model_place_model_left_model_place_model_left_of
  unfold P_maps_Keys_map_model_place_model_left_model_place_model_left
  intro c0 nc
  have ec := PH.upd_same h2 c0 (.cells #[.map (some b)] 43 (0, 0))
  have l3 := PH.le_upd (O := .cells #[.map (some b)] 43 (0, 0)) nc
  generalize h2.upd c0 (.cells #[.map (some b)] 43 (0, 0)) = h3 at ec l3 ⊢
  simp only [oV_some]
  refine ⟨108, [.pointer (some ⟨c0, 0, none⟩)], rfl, by kernel_rfl, ?_⟩
  intro fn tmps bd lp hsz hfit nd nl hdl
  have g3 := l3 _ _ f3
  have g5 := l3 _ _ e5
  have eb3 := l3 _ _ eb2
  have le3 := PH.le_trans l1 (PH.le_trans l2 l3)
  have md : h bd = none := none_of le3 nd
  have ml : h lp = none := none_of le3 nl
  have n3d : b3 ≠ bd := ne_of_known g3 nd
  have n3l : b3 ≠ lp := ne_of_known g3 nl
  have n5d : b5 ≠ bd := ne_of_known g5 nd
  have n5l : b5 ≠ lp := ne_of_known g5 nl
  have ncd : c0 ≠ bd := ne_of_known ec nd
  have ncl : c0 ≠ lp := ne_of_known ec nl
  have nbd : b ≠ bd := ne_of_known eb3 nd
  have nbl : b ≠ lp := ne_of_known eb3 nl
  have nd4' : [b3, b5, bd, lp].Nodup := by simp [n35, n3d, n3l, n5d, n5l, hdl]
  have lv : ∀ O O', h3.le ((h3.upd bd O).upd lp O') := fun O O' => PH.le_trans (PH.le_upd nd) (PH.le_upd ((PH.upd_ne _ _ (Ne.symm hdl)).trans nl))
  generalize hr0 : ({ state := .ready, pending := none, fn := fn, tmps := tmps, params := #[9], assign := rfAssign Try.f60, body := rfBody Try.f60, defers := bd } : Loop) = r0
  have q1 : r0.state = .ready := by rw [← hr0]
  have q2 : r0.pending = none := by rw [← hr0]
  have bnot : b ∉ [b3, b5, bd, lp] := by
    simp only [List.mem_cons, List.not_mem_nil, or_false, not_or]
    exact ⟨fun hh => (by subst hh; rw [n3] at eb; cases eb), fun hh => (by subst hh; rw [m5] at eb; cases eb), nbd, nbl⟩
  have h0 : ThrI o b3 b5 bd lp r0 [] [b3, b5, bd, lp] ((h3.upd bd (.deferred (some []))).upd lp (.loop r0)) := by
    refine ⟨lv _ _ _ _ g3, (PH.upd_ne _ _ hdl).trans (PH.upd_same _ _ _), PH.upd_same _ _ _, none, 0, 0, [], lv _ _ _ _ g5, IntsIn.nil _, by simp, by simp⟩
  refine (meets_keys_left (thrI_kept o b3 b5 bd lp r0) (lv _ _ _ _ eb3) (lv _ _ _ _ ec) st en.keys bnot h0 ?_).mono ?_
  · intro v S hh e hI he nv sv
    obtain ⟨p, q, hk⟩ := en.keys e he
    have few' : v.length ≤ 1000000 := by
      have := nodup_le nv sv
      rw [List.length_append] at this
      simp only [List.length_singleton] at this
      omega
    have rd := thr_round_left nd4' q1 q2 hI hk few' (.func (.func 108) #[] #[.pointer (some ⟨c0, 0, none⟩)]) (some b) (some b) none 0 0
    have rd' := (R_model_threads_model_left_eq _ _ _ _ _ _ _ _ _ _ _ _ _ _ _).mpr rd
    rw [hk]
    have hl := hI.2.2.1
    subst hr0
    refine yield_of2 (e0 := [(9, key2 p q), (8, .func (.func 108) #[] #[.pointer (some ⟨c0, 0, none⟩)]), (7, .map (some b)), (5, .pointer (some ⟨b5, 0, none⟩)), (4, .slice none 0 0), (3, .pointer (some ⟨b3, 0, none⟩)), (0, .map (some b)), (1, .int .i64 o)]) (annA := AA_model_threads_model_left) (annB := AB_model_threads_model_left) (m := 22) rfl rfl hl rfl rfl (fits_round hfit (show 9 < tmps.size by omega)) ?_ (by kernel_rfl) (by kernel_rfl) ?_
    · simpa using hsz
    · exact rd'
  · rintro v hh ⟨rfl, w, S, ⟨k3, kd, kl, p, n, c, T, k5, i, rfl, dj⟩, hmem, nw, xt, nw0⟩
    refine ⟨r0, kl, by rw [q1]; simp, q2, ?_⟩
    have hx := PH.upd_ne hh (.loop { r0 with state := .exhausted }) n5l
    have hd := PH.upd_ne hh (.loop { r0 with state := .exhausted }) (Ne.symm (Ne.symm hdl))
    have hT : ∀ x ∈ T, (hh.upd lp (.loop { r0 with state := .exhausted })) x = hh x := fun x ht => PH.upd_ne _ _ fun e => by subst e; have := dj _ ht; simp at this
    have off4 : ∀ x O, h x = some O → x ∉ [b3, b5, bd, lp] := fun x O hx' hm => by
      simp only [List.mem_cons, List.not_mem_nil, or_false] at hm
      rcases hm with rfl | rfl | rfl | rfl
      · rw [n3] at hx'; cases hx'
      · rw [m5] at hx'; cases hx'
      · rw [md] at hx'; cases hx'
      · rw [ml] at hx'; cases hx'
    have fr : h.le (hh.upd lp (.loop { r0 with state := .exhausted })) := fun x O hx' => by
      have hm := off4 x O hx'
      have hl' : x ≠ lp := fun e => hm (by simp [e])
      rw [PH.upd_ne _ _ hl']
      exact xt x O (lv _ _ _ _ (le3 _ _ hx')) hm
    have nT : ∀ x ∈ T, h x = none := fun x ht => by
      rcases nw0 x (List.mem_append_right _ ht) with h' | h'
      · exact absurd h' (dj x ht)
      · cases hh' : h x with
        | none => rfl
        | some O => rw [lv _ _ _ _ (le3 _ _ hh')] at h'; cases h'
    have ndT : ∀ x ∈ T, x ≠ bd ∧ x ≠ b5 := fun x ht => by have := dj x ht; simp only [List.mem_cons, List.not_mem_nil, or_false, not_or] at this; exact ⟨this.2.2.1, this.2.1⟩
    have k5' := hx.trans k5
    have kd' := hd.trans kd
    have i' := i.of hT
    clear hx hd hT
    generalize hh.upd lp (.loop { r0 with state := .exhausted }) = h11 at k5' kd' i' fr ⊢
    have hsrt : sortI (thrE o w) = sortI (thrP o l) := by
      rw [← thrE_ents en o]
      exact sortI_perm (thrE_perm o (perm_of_once nw st.nodup (fun e => hmem e)))
    have hlen : (thrE o w).length < 4611686018427387904 := by
      have h1 := nodup_le nw (fun e he => (hmem e).2 he)
      have h2 := thrE_len o w
      omega
    simp only [xNn_some, add_mk, cell_mk, upd_at, del_at, if_true, if_false, Option.bind_some, List.getElem?_toArray, List.getElem?_cons_succ, List.getElem?_cons_zero, oI_some, oS_some, oM_some, oB_some, oP_some, oT_some, xIdx_some, Nat.zero_add, Nat.add_zero, Nat.mul_one, k5']
    obtain ⟨rfl, ⟨hv, rfl, rfl, rfl⟩ | ⟨bo, junk, rfl, eo, hc, hj, rfl⟩⟩ := i'
    · rw [hv] at hsrt k5' ⊢
      refine (meets_sort_nil none 0).look ?_
      simp only [xNn_some, add_mk, cell_mk, upd_at, del_at, if_true, if_false, Option.bind_some, List.getElem?_toArray, List.getElem?_cons_succ, List.getElem?_cons_zero, oI_some, oS_some, oM_some, oB_some, oP_some, oT_some, xIdx_some, Nat.zero_add, Nat.add_zero, Nat.mul_one, k5', oTup_mk]
      refine ⟨rfl, ⟨kd', trivial⟩, ?_⟩
      rw [← hsrt]
      refine ⟨none, 0, 0, [], rfl, (by rw [show sortI [] = [] from by simp [sortI]]; exact IntsIn.nil _), ?_, by simp⟩
      exact fun x O hx' => (PH.upd_ne _ _ fun e => by subst e; rw [md] at hx'; cases hx').trans (fr _ _ hx')
    · have nbo := nT bo (by simp)
      obtain ⟨bo1, bo2⟩ := ndT bo (by simp)
      refine (meets_sort c eo hlen).mono ?_
      rintro _ _ ⟨rfl, rfl⟩
      simp only [xNn_some, add_mk, cell_mk, upd_at, del_at, if_true, if_false, Option.bind_some, List.getElem?_toArray, List.getElem?_cons_succ, List.getElem?_cons_zero, oI_some, oS_some, oM_some, oB_some, oP_some, oT_some, xIdx_some, Nat.zero_add, Nat.add_zero, Nat.mul_one, oTup_mk, Ne.symm bo2, k5']
      refine ⟨rfl, ⟨(PH.upd_ne _ _ (Ne.symm bo1)).trans kd', trivial⟩, ?_⟩
      refine ⟨some ⟨bo, 0, none⟩, _, c, [bo], rfl, ⟨by rw [← hsrt, sortI_length], .inr ⟨bo, junk, rfl, ?_, by rw [← hsrt, sortI_length]; exact hc, by rw [← hsrt, sortI_length]; exact hj, rfl⟩⟩, ?_, by simp [nbo]⟩
      · show ((h11.upd bo _).upd bd _) bo = _
        rw [PH.upd_ne _ _ bo1, PH.upd_same, hsrt]
      · intro x O hx'
        have h1 : x ≠ bd := fun e => by subst e; rw [md] at hx'; cases hx'
        have h2 : x ≠ bo := fun e => by subst e; rw [nbo] at hx'; cases hx'
        show ((h11.upd bo _).upd bd _) x = _
        rw [PH.upd_ne _ _ h1, PH.upd_ne _ _ h2]
        exact fr _ _ hx'

end Go.Md

/-
  The model's functions that turn it.
-/
set_option linter.unusedSimpArgs false
set_option linter.unusedVariables false
namespace Go.Md
open Go Go.Sx Go.Proofs Go.Proofs.Ytnnedfhpicdacaa

/-- What a transition leaves. -/
def Upd (h : PH) (L : ML) (s : Ms) (o : Option Ms) (v : Value) (h' : PH) : Prop := v = .bool o.isSome ∧ MRep h' L (o.getD s) ∧ Ext L.all h h'
theorem Upd.no {h h' : PH} {L : ML} {s : Ms} {o : Option Ms} (e : o = none) (r : MRep h' L s) (x : Ext L.all h h') : Upd h L s o (.bool false) h' := by subst e; exact ⟨rfl, r, x⟩
theorem Upd.yes {h h' : PH} {L : ML} {s s' : Ms} {o : Option Ms} (e : o = some s') (r : MRep h' L s') (x : Ext L.all h h') : Upd h L s o (.bool true) h' := by subst e; exact ⟨rfl, r, x⟩
theorem Upd.look {h h' : PH} {L : ML} {s : Ms} {o : Option Ms} (b : Bool) (e : o = if b then some s else none) (r : MRep h' L s) (x : Ext L.all h h') : Upd h L s o (.bool b) h' := by
  cases b
  · exact .no e r x
  · exact .yes e r x

theorem MRep.setOb {h : PH} {L : ML} {s : Ms} (r : MRep h L s) {ms : List Mo} (hl : ms.length = s.mons.length) (j : List Value) : MRep (h.upd L.ob (.cells (moArr ms j) 117 (0, 0))) L { s with mons := ms } := by
  obtain ⟨n1, n2, n3, n4, n5, n6, n7, n8, n9, n10⟩ := r.nes
  obtain ⟨nd, nm, nf, cm, co, cf, cw, cl⟩ := r
  refine ⟨nd, by simpa [hl] using nm, nf, ?_, ⟨j, PH.upd_same _ _ _⟩, ?_, cw.of (PH.upd_ne _ _ n6.symm), cl.of (PH.upd_ne _ _ n7.symm)⟩
  · obtain ⟨c, c', cm⟩ := cm
    exact ⟨c, c', by rw [PH.upd_ne _ _ n1, cm]; simp only [hl]⟩
  · obtain ⟨k, cf⟩ := cf
    exact ⟨k, by rw [PH.upd_ne _ _ n5.symm, cf]⟩
theorem MRep.setFb {h : PH} {L : ML} {s : Ms} (r : MRep h L s) {ms : List Bool} (hl : ms.length = s.flags.length) (j : List Value) : MRep (h.upd L.fb (.cells (flArr ms j) 4 (0, 0))) L { s with flags := ms } := by
  obtain ⟨n1, n2, n3, n4, n5, n6, n7, n8, n9, n10⟩ := r.nes
  obtain ⟨nd, nm, nf, cm, co, cf, cw, cl⟩ := r
  refine ⟨nd, nm, by simpa [hl] using nf, ?_, ?_, ⟨j, PH.upd_same _ _ _⟩, cw.of (PH.upd_ne _ _ n8.symm), cl.of (PH.upd_ne _ _ n9.symm)⟩
  · obtain ⟨c, c', cm⟩ := cm
    exact ⟨c, c', by rw [PH.upd_ne _ _ n2, cm]; simp only [hl]⟩
  · obtain ⟨k, co⟩ := co
    exact ⟨k, by rw [PH.upd_ne _ _ n5, co]⟩
theorem MRep.setWb {h : PH} {L : ML} {s : Ms} (r : MRep h L s) {O : Obj} {l : Pl Int} (m : MapRep encI (h.upd L.wb O) L.wb l) : MRep (h.upd L.wb O) L { s with waits := l } := by
  obtain ⟨n1, n2, n3, n4, n5, n6, n7, n8, n9, n10⟩ := r.nes
  obtain ⟨nd, nm, nf, cm, co, cf, cw, cl⟩ := r
  refine ⟨nd, nm, nf, ?_, ?_, ?_, m, cl.of (PH.upd_ne _ _ n10.symm)⟩
  · rw [PH.upd_ne _ _ n3]; exact cm
  · rw [PH.upd_ne _ _ n6]; exact co
  · rw [PH.upd_ne _ _ n8]; exact cf
theorem MRep.setLb {h : PH} {L : ML} {s : Ms} (r : MRep h L s) {O : Obj} {l : Pl (Int × Int)} (m : MapRep encL (h.upd L.lb O) L.lb l) : MRep (h.upd L.lb O) L { s with left := l } := by
  obtain ⟨n1, n2, n3, n4, n5, n6, n7, n8, n9, n10⟩ := r.nes
  obtain ⟨nd, nm, nf, cm, co, cf, cw, cl⟩ := r
  refine ⟨nd, nm, nf, ?_, ?_, ?_, cw.of (PH.upd_ne _ _ n10), m⟩
  · rw [PH.upd_ne _ _ n4]; exact cm
  · rw [PH.upd_ne _ _ n7]; exact co
  · rw [PH.upd_ne _ _ n9]; exact cf

theorem ob_in (L : ML) : L.ob ∈ L.all := by simp [ML.all]
theorem fb_in (L : ML) : L.fb ∈ L.all := by simp [ML.all]
theorem wb_in (L : ML) : L.wb ∈ L.all := by simp [ML.all]
theorem lb_in (L : ML) : L.lb ∈ L.all := by simp [ML.all]

/-- A store of a part of a monitor. -/
theorem st_mon {h : PH} {L : ML} {s : Ms} (r : MRep h L s) {o : Int} (ho : OIn s o) (k : Nat) (vs : List Value) (m : Mo) {n : Nat} {K : PH → Prop} (hn : vs.length = n) (hz : n ≠ 0) (h1 : ∀ v ∈ vs, oneCell v = true)
    (hm : setL (moV (s.mon o)) k vs = moV m) (hk : k + vs.length ≤ 3) (kk : ∀ O, MRep (h.upd L.ob O) L (s.setMon o m) → K (h.upd L.ob O)) : xSt n h ⟨L.ob, o.toNat * 3 + k, none⟩ vs K := by
  obtain ⟨j, co⟩ := r.co
  refine xSt_mk co hn hz h1 ?_ (kk _ ?_)
  · rw [moArr_size]; have := ho.h1; omega
  · rw [moArr_set ho.h1 k vs m hm hk]
    exact r.setOb (by simp) j
theorem st_mon0 {h : PH} {L : ML} {s : Ms} (r : MRep h L s) {o : Int} (ho : OIn s o) (vs : List Value) (m : Mo) {n : Nat} {K : PH → Prop} (hn : vs.length = n) (hz : n ≠ 0) (h1 : ∀ v ∈ vs, oneCell v = true)
    (hm : setL (moV (s.mon o)) 0 vs = moV m) (hk : vs.length ≤ 3) (kk : ∀ O, MRep (h.upd L.ob O) L (s.setMon o m) → K (h.upd L.ob O)) : xSt n h ⟨L.ob, o.toNat * 3, none⟩ vs K := st_mon r ho 0 vs m hn hz h1 hm (by omega) kk
theorem st_flag {h : PH} {L : ML} {s : Ms} (r : MRep h L s) {t : Int} (ht : t.toNat < s.flags.length) (b : Bool) {K : PH → Prop} (kk : ∀ O, MRep (h.upd L.fb O) L (s.setFlag t b) → K (h.upd L.fb O)) : xSt 1 h ⟨L.fb, t.toNat, none⟩ [.bool b] K := by
  obtain ⟨j, cf⟩ := r.cf
  refine xSt_mk cf rfl (by decide) (by simp [oneCell]) ?_ (kk _ ?_)
  · rw [flArr_size]; omega
  · rw [flArr_set ht b]
    exact r.setFb (by simp) j
theorem mon_setMon {s : Ms} {o : Int} (ho : OIn s o) (m : Mo) : (s.setMon o m).mon o = m := by
  unfold Ms.mon Ms.setMon
  simp [List.getD_eq_getElem?_getD, ho.h1]
theorem setMon_setMon (s : Ms) (o : Int) (m m' : Mo) : (s.setMon o m).setMon o m' = s.setMon o m' := by simp [Ms.setMon]
theorem OIn.set {s : Ms} {o : Int} (ho : OIn s o) (m : Mo) : OIn (s.setMon o m) o := ⟨ho.h0, by simpa [Ms.setMon] using ho.h1⟩

/-- A monitor's read of what was just turned. -/
theorem mon_get {s : Ms} {o : Int} (ho : OIn s o) (m : Mo) : (s.setMon o m).mons.getD o.toNat ⟨-1, 0, 0⟩ = m := mon_setMon ho m

theorem meets_enter {h : PH} {L : ML} {s : Ms} (r : MRep h L s) (e : Ev) (ho : OIn s e.obj) : Meets Try.prog 77 #[mp L, evV e] h (Upd h L s (s.enter e)) := by
  apply P_model_Model_enter_of
  unfold P_model_Model_enter
  intro b hb
  obtain ⟨d1, d2, d3, d4, d5⟩ := r.off hb
  obtain ⟨c, c', cm⟩ := r.cm
  obtain ⟨j, co⟩ := r.co
  have r1 := r.new (O := .cells #[.int .i64 e.kind, .int .i64 e.thread, .int .i64 e.obj, .int .i64 e.arg, .int .i64 e.err] 33 (0, 0)) hb
  have x1 : Ext L.all h _ := (Ext.refl L.all h).upd_new (O := .cells #[.int .i64 e.kind, .int .i64 e.thread, .int .i64 e.obj, .int .i64 e.arg, .int .i64 e.err] 33 (0, 0)) hb
  refine xDraw_self ?_
  try simp only [xNn_some, add_mk, cell_mk, upd_at, del_at, if_true, if_false, Option.bind_some, List.getElem?_toArray, List.getElem?_cons_succ, List.getElem?_cons_zero, oI_some, oS_some, oM_some, oB_some, oP_some, oT_some, xIdx_some, Nat.zero_add, Nat.add_zero, Nat.mul_one, d1, cm, xBlk]
  refine ⟨ho.h0, ho.lt, ?_⟩
  refine ⟨fun hc => ?_, fun hc => ?_⟩
  · have hc := beq_iff_eq.1 hc
    refine xDraw_self ?_
    try simp only [xNn_some, add_mk, cell_mk, upd_at, del_at, if_true, if_false, Option.bind_some, List.getElem?_toArray, List.getElem?_cons_succ, List.getElem?_cons_zero, oI_some, oS_some, oM_some, oB_some, oP_some, oT_some, xIdx_some, Nat.zero_add, Nat.add_zero, Nat.mul_one]
    refine (meets_others r1 e ho).look ?_
    try simp only [xNn_some, add_mk, cell_mk, upd_at, del_at, if_true, if_false, Option.bind_some, List.getElem?_toArray, List.getElem?_cons_succ, List.getElem?_cons_zero, oI_some, oS_some, oM_some, oB_some, oP_some, oT_some, xIdx_some, Nat.zero_add, Nat.add_zero, Nat.mul_one, d1, d2, cm, co, moArr_1 ho.h1]
    refine ⟨PH.le_refl _, xSc_or ((s.mon e.obj).count == s.most) (fun _ J hJ => hJ) ⟨fun hx => ?_, fun hx => ?_⟩⟩
    · exact .no (by simp only [Ms.enter, hc, if_true, hx]) r1 x1
    · try simp only [xNn_some, add_mk, cell_mk, upd_at, del_at, if_true, if_false, Option.bind_some, List.getElem?_toArray, List.getElem?_cons_succ, List.getElem?_cons_zero, oI_some, oS_some, oM_some, oB_some, oP_some, oT_some, xIdx_some, Nat.zero_add, Nat.add_zero, Nat.mul_one, d1, d2, cm, co]
      refine st_mon0 r1 ho _ ⟨e.thread, (s.mon e.obj).count, (s.mon e.obj).hash⟩ rfl (by decide) (by simp [oneCell]) rfl (by simp) fun O r2 => ?_
      have ho2 := ho.set ⟨e.thread, (s.mon e.obj).count, (s.mon e.obj).hash⟩
      obtain ⟨j2, co2⟩ := r2.co
      simp only [cell_mk, co2, Option.bind_some, moArr_1 ho2.h1, oI_some, mon_get ho]
      refine st_mon r2 ho2 1 _ ⟨e.thread, IntKind.wrap .i64 ((s.mon e.obj).count + 1), (s.mon e.obj).hash⟩ rfl (by decide) (by simp [oneCell]) ?_ (by simp) fun O r3 => ?_
      · rw [mon_setMon ho]; rfl
      · rw [setMon_setMon] at r3
        exact .yes (by simp only [Ms.enter, hc, if_true, hx, if_false, Bool.false_eq_true]) r3 ((x1.upd_in (ob_in L)).upd_in (ob_in L))
  have hc0 : e.err ≠ 0 := by simpa using hc
  refine ⟨fun hc => ?_, fun hc => ?_⟩
  · have hc := beq_iff_eq.1 hc
    refine xDraw_self ?_
    try simp only [xNn_some, add_mk, cell_mk, upd_at, del_at, if_true, if_false, Option.bind_some, List.getElem?_toArray, List.getElem?_cons_succ, List.getElem?_cons_zero, oI_some, oS_some, oM_some, oB_some, oP_some, oT_some, xIdx_some, Nat.zero_add, Nat.add_zero, Nat.mul_one]
    refine (meets_owns r1 e ho).look ?_
    try simp only [xNn_some, add_mk, cell_mk, upd_at, del_at, if_true, if_false, Option.bind_some, List.getElem?_toArray, List.getElem?_cons_succ, List.getElem?_cons_zero, oI_some, oS_some, oM_some, oB_some, oP_some, oT_some, xIdx_some, Nat.zero_add, Nat.add_zero, Nat.mul_one, d1, d2, cm, co, moArr_1 ho.h1]
    exact ⟨PH.le_refl _, xSc_and ((s.mon e.obj).count == s.most) (fun _ J hJ => hJ) (.look _ (by simp only [Ms.enter, hc]; rfl) r1 x1)⟩
  have hc1 : e.err ≠ 10 := by simpa using hc
  refine ⟨fun hc => ?_, fun hc => ?_⟩
  · have hc := beq_iff_eq.1 hc
    refine xSc_and (s.others e) (fun _ J hJ => ?_) (.look _ (by simp only [Ms.enter, hc]; rfl) r1 x1)
    refine (meets_others r1 e ho).look ?_
    try simp only [xNn_some, add_mk, cell_mk, upd_at, del_at, if_true, if_false, Option.bind_some, List.getElem?_toArray, List.getElem?_cons_succ, List.getElem?_cons_zero, oI_some, oS_some, oM_some, oB_some, oP_some, oT_some, xIdx_some, Nat.zero_add, Nat.add_zero, Nat.mul_one]
    exact hJ
  have hc2 : e.err ≠ 11 := by simpa using hc
  refine ⟨fun hc => ?_, fun hc => ?_⟩
  · have hc := beq_iff_eq.1 hc
    refine xSc_and (s.others e) (fun _ J hJ => ?_) (.look _ (by simp only [Ms.enter, hc]; rfl) r1 x1)
    refine (meets_others r1 e ho).look ?_
    try simp only [xNn_some, add_mk, cell_mk, upd_at, del_at, if_true, if_false, Option.bind_some, List.getElem?_toArray, List.getElem?_cons_succ, List.getElem?_cons_zero, oI_some, oS_some, oM_some, oB_some, oP_some, oT_some, xIdx_some, Nat.zero_add, Nat.add_zero, Nat.mul_one]
    exact hJ
  have hc3 : e.err ≠ 14 := by simpa using hc
  exact .no (by simp only [Ms.enter, hc0, hc1, hc2, hc3, if_false]) r1 x1

theorem meets_exit {h : PH} {L : ML} {s : Ms} (r : MRep h L s) (e : Ev) (ho : OIn s e.obj) : Meets Try.prog 78 #[mp L, evV e] h (Upd h L s (s.exit e)) := by
  apply P_model_Model_exit_of
  unfold P_model_Model_exit
  intro b hb
  obtain ⟨d1, d2, d3, d4, d5⟩ := r.off hb
  obtain ⟨c, c', cm⟩ := r.cm
  obtain ⟨j, co⟩ := r.co
  have r1 := r.new (O := .cells #[.int .i64 e.kind, .int .i64 e.thread, .int .i64 e.obj, .int .i64 e.arg, .int .i64 e.err] 33 (0, 0)) hb
  have x1 : Ext L.all h _ := (Ext.refl L.all h).upd_new (O := .cells #[.int .i64 e.kind, .int .i64 e.thread, .int .i64 e.obj, .int .i64 e.arg, .int .i64 e.err] 33 (0, 0)) hb
  refine xDraw_self ?_
  try simp only [xNn_some, add_mk, cell_mk, upd_at, del_at, if_true, if_false, Option.bind_some, List.getElem?_toArray, List.getElem?_cons_succ, List.getElem?_cons_zero, oI_some, oS_some, oM_some, oB_some, oP_some, oT_some, xIdx_some, Nat.zero_add, Nat.add_zero, Nat.mul_one, d1, cm, xBlk]
  refine ⟨ho.h0, ho.lt, ?_⟩
  refine ⟨fun hc => ?_, fun hc => ?_⟩
  · have hc := beq_iff_eq.1 hc
    refine (meets_owns r1 e ho).look ?_
    try simp only [xNn_some, add_mk, cell_mk, upd_at, del_at, if_true, if_false, Option.bind_some, List.getElem?_toArray, List.getElem?_cons_succ, List.getElem?_cons_zero, oI_some, oS_some, oM_some, oB_some, oP_some, oT_some, xIdx_some, Nat.zero_add, Nat.add_zero, Nat.mul_one]
    refine .look _ ?_ r1 x1
    simp only [Ms.exit, hc, if_true]
    cases s.owns e <;> rfl
  have hc0 : e.err ≠ 9 := by simpa using hc
  refine xSc_or (!s.owns e) (fun _ J hJ => ?_) ⟨fun hx => ?_, fun hx => ?_⟩
  · try simp only [xNn_some, add_mk, cell_mk, upd_at, del_at, if_true, if_false, Option.bind_some, List.getElem?_toArray, List.getElem?_cons_succ, List.getElem?_cons_zero, oI_some, oS_some, oM_some, oB_some, oP_some, oT_some, xIdx_some, Nat.zero_add, Nat.add_zero, Nat.mul_one]
    refine (meets_owns r1 e ho).look ?_
    try simp only [xNn_some, add_mk, cell_mk, upd_at, del_at, if_true, if_false, Option.bind_some, List.getElem?_toArray, List.getElem?_cons_succ, List.getElem?_cons_zero, oI_some, oS_some, oM_some, oB_some, oP_some, oT_some, xIdx_some, Nat.zero_add, Nat.add_zero, Nat.mul_one]
    exact hJ
  · exact .no (by simp only [Ms.exit, hc0, if_false, hx, if_true]) r1 x1
  try simp only [xNn_some, add_mk, cell_mk, upd_at, del_at, if_true, if_false, Option.bind_some, List.getElem?_toArray, List.getElem?_cons_succ, List.getElem?_cons_zero, oI_some, oS_some, oM_some, oB_some, oP_some, oT_some, xIdx_some, Nat.zero_add, Nat.add_zero, Nat.mul_one, d2, co, moArr_1 ho.h1]
  have fin := mon_setMon ho ⟨(s.mon e.obj).owner, IntKind.wrap .i64 ((s.mon e.obj).count - 1), (s.mon e.obj).hash⟩
  refine st_mon r1 ho 1 _ ⟨(s.mon e.obj).owner, IntKind.wrap .i64 ((s.mon e.obj).count - 1), (s.mon e.obj).hash⟩ rfl (by decide) (by simp [oneCell]) rfl (by simp) fun O r2 => ?_
  have ho2 := ho.set ⟨(s.mon e.obj).owner, IntKind.wrap .i64 ((s.mon e.obj).count - 1), (s.mon e.obj).hash⟩
  obtain ⟨j2, co2⟩ := r2.co
  simp only [cell_mk, co2, Option.bind_some, moArr_1 ho2.h1, oI_some, mon_get ho]
  refine ⟨fun hz => ?_, fun hz => ?_⟩
  · have hz := beq_iff_eq.1 hz
    refine st_mon0 r2 ho2 _ ⟨-1, IntKind.wrap .i64 ((s.mon e.obj).count - 1), (s.mon e.obj).hash⟩ rfl (by decide) (by simp [oneCell]) ?_ (by simp) fun O r3 => ?_
    · rw [fin]; rfl
    · rw [setMon_setMon] at r3
      refine .yes ?_ r3 ((x1.upd_in (ob_in L)).upd_in (ob_in L))
      simp only [Ms.exit, hc0, if_false, hx, hz, if_true, Bool.false_eq_true]
  · have hz : IntKind.wrap .i64 ((s.mon e.obj).count - 1) ≠ 0 := by simpa using hz
    refine .yes ?_ r2 (x1.upd_in (ob_in L))
    simp only [Ms.exit, hc0, if_false, hx, hz, Bool.false_eq_true]

theorem meets_hash {h : PH} {L : ML} {s : Ms} (r : MRep h L s) (e : Ev) (ho : OIn s e.obj) : Meets Try.prog 83 #[mp L, evV e] h (Upd h L s (s.hash e)) := by
  apply P_model_Model_hash_of
  unfold P_model_Model_hash
  intro b hb
  obtain ⟨d1, d2, d3, d4, d5⟩ := r.off hb
  obtain ⟨c, c', cm⟩ := r.cm
  obtain ⟨j, co⟩ := r.co
  have r1 := r.new (O := .cells #[.int .i64 e.kind, .int .i64 e.thread, .int .i64 e.obj, .int .i64 e.arg, .int .i64 e.err] 33 (0, 0)) hb
  have x1 : Ext L.all h _ := (Ext.refl L.all h).upd_new (O := .cells #[.int .i64 e.kind, .int .i64 e.thread, .int .i64 e.obj, .int .i64 e.arg, .int .i64 e.err] 33 (0, 0)) hb
  refine xDraw_self ?_
  try simp only [xNn_some, add_mk, cell_mk, upd_at, del_at, if_true, if_false, Option.bind_some, List.getElem?_toArray, List.getElem?_cons_succ, List.getElem?_cons_zero, oI_some, oS_some, oM_some, oB_some, oP_some, oT_some, xIdx_some, Nat.zero_add, Nat.add_zero, Nat.mul_one, d1, cm, xBlk]
  refine ⟨ho.h0, ho.lt, ?_⟩
  refine ⟨fun hc => ?_, fun hc => ?_⟩
  · have hc := beq_iff_eq.1 hc
    simp only [upd_at, d2, if_false, co, Option.bind_some, moArr_0 ho.h1, oI_some]
    exact xSc_and ((s.mon e.obj).owner != -1) (fun _ J hJ => hJ) (.look _ (by simp only [Ms.hash, hc]; rfl) r1 x1)
  have hc0 : e.err ≠ 11 := by simpa using hc
  refine xDraw_self ?_
  try simp only [xNn_some, add_mk, cell_mk, upd_at, del_at, if_true, if_false, Option.bind_some, List.getElem?_toArray, List.getElem?_cons_succ, List.getElem?_cons_zero, oI_some, oS_some, oM_some, oB_some, oP_some, oT_some, xIdx_some, Nat.zero_add, Nat.add_zero, Nat.mul_one, d2, co, moArr_2 ho.h1]
  refine xSc_or (!(decide (1 ≤ e.arg) && decide (e.arg ≤ 2147483647))) (fun _ J hJ => ?_) ?_
  · refine (meets_in _ _ _).look ?_
    try simp only [xNn_some, add_mk, cell_mk, upd_at, del_at, if_true, if_false, Option.bind_some, List.getElem?_toArray, List.getElem?_cons_succ, List.getElem?_cons_zero, oI_some, oS_some, oM_some, oB_some, oP_some, oT_some, xIdx_some, Nat.zero_add, Nat.add_zero, Nat.mul_one]
    exact ⟨PH.le_refl _, hJ⟩
  refine xSc_or ((s.mon e.obj).hash != 0 && (s.mon e.obj).hash != e.arg) (fun _ J hJ => xSc_and ((s.mon e.obj).hash != e.arg) (fun _ J hJ => hJ) hJ) ?_
  refine ⟨fun hx => ?_, fun hx => ?_⟩
  · exact .no (by simp only [Ms.hash, hc0, if_false, hx, if_true]) r1 x1
  try simp only [xNn_some, add_mk, cell_mk, upd_at, del_at, if_true, if_false, Option.bind_some, List.getElem?_toArray, List.getElem?_cons_succ, List.getElem?_cons_zero, oI_some, oS_some, oM_some, oB_some, oP_some, oT_some, xIdx_some, Nat.zero_add, Nat.add_zero, Nat.mul_one, d2, co, moArr_1 ho.h1]
  refine st_mon r1 ho 2 _ ⟨(s.mon e.obj).owner, (s.mon e.obj).count, e.arg⟩ rfl (by decide) (by simp [oneCell]) rfl (by simp) fun O r2 => ?_
  exact .yes (by simp only [Ms.hash, hc0, if_false, hx, Bool.false_eq_true]) r2 (x1.upd_in (ob_in L))

theorem meets_holds {h : PH} {L : ML} {s : Ms} (r : MRep h L s) (e : Ev) (ho : OIn s e.obj) : Meets Try.prog 84 #[mp L, evV e] h (Upd h L s (s.holds e)) := by
  apply P_model_Model_holds_of
  unfold P_model_Model_holds
  intro b hb
  have r1 := r.new (O := .cells #[.int .i64 e.kind, .int .i64 e.thread, .int .i64 e.obj, .int .i64 e.arg, .int .i64 e.err] 33 (0, 0)) hb
  have x1 : Ext L.all h _ := (Ext.refl L.all h).upd_new (O := .cells #[.int .i64 e.kind, .int .i64 e.thread, .int .i64 e.obj, .int .i64 e.arg, .int .i64 e.err] 33 (0, 0)) hb
  try simp only [xNn_some, add_mk, cell_mk, upd_at, del_at, if_true, if_false, Option.bind_some, List.getElem?_toArray, List.getElem?_cons_succ, List.getElem?_cons_zero, oI_some, oS_some, oM_some, oB_some, oP_some, oT_some, xIdx_some, Nat.zero_add, Nat.add_zero, Nat.mul_one]
  refine xSc_and (e.arg == 1 && s.owns e || e.arg == 0 && !s.owns e) (fun _ J hJ => ?_) (.look _ rfl r1 x1)
  refine xSc_and (s.owns e) (fun _ J hJ => ?_) (xSc_or (e.arg == 0 && !s.owns e) (fun _ J hJ => ?_) hJ)
  · refine (meets_owns r1 e ho).look ?_
    try simp only [xNn_some, add_mk, cell_mk, upd_at, del_at, if_true, if_false, Option.bind_some, List.getElem?_toArray, List.getElem?_cons_succ, List.getElem?_cons_zero, oI_some, oS_some, oM_some, oB_some, oP_some, oT_some, xIdx_some, Nat.zero_add, Nat.add_zero, Nat.mul_one]
    exact hJ
  · try simp only [xNn_some, add_mk, cell_mk, upd_at, del_at, if_true, if_false, Option.bind_some, List.getElem?_toArray, List.getElem?_cons_succ, List.getElem?_cons_zero, oI_some, oS_some, oM_some, oB_some, oP_some, oT_some, xIdx_some, Nat.zero_add, Nat.add_zero, Nat.mul_one]
    refine xSc_and (!s.owns e) (fun _ J hJ => ?_) hJ
    refine (meets_owns r1 e ho).look ?_
    try simp only [xNn_some, add_mk, cell_mk, upd_at, del_at, if_true, if_false, Option.bind_some, List.getElem?_toArray, List.getElem?_cons_succ, List.getElem?_cons_zero, oI_some, oS_some, oM_some, oB_some, oP_some, oT_some, xIdx_some, Nat.zero_add, Nat.add_zero, Nat.mul_one]
    exact hJ

theorem meets_leave {h : PH} {L : ML} {s : Ms} (r : MRep h L s) (o t w : Int) : Meets Try.prog 80 #[mp L, .agg #[.int .i64 o, .int .i64 t], .int .i64 w] h (Upd h L s (s.leave o t w)) := by
  apply P_model_Model_leave_of
  unfold P_model_Model_leave
  intro b hb
  obtain ⟨d1, d2, d3, d4, d5⟩ := r.off hb
  obtain ⟨c, c', cm⟩ := r.cm
  have r1 := r.new (O := .cells #[.int .i64 o, .int .i64 t] 122 (0, 0)) hb
  have x1 : Ext L.all h _ := (Ext.refl L.all h).upd_new (O := .cells #[.int .i64 o, .int .i64 t] 122 (0, 0)) hb
  obtain ⟨n1, n2, n3, n4, n5, n6, n7, n8, n9, n10⟩ := r.nes
  refine xDraw_self ?_
  try simp only [xNn_some, add_mk, cell_mk, upd_at, del_at, if_true, if_false, Option.bind_some, List.getElem?_toArray, List.getElem?_cons_succ, List.getElem?_cons_zero, oI_some, oS_some, oM_some, oB_some, oP_some, oT_some, xIdx_some, Nat.zero_add, Nat.add_zero, Nat.mul_one, d1, cm]
  refine look_rep r1.cw o t ?_
  cases hf : s.waits.find o t with
  | none =>
    refine look_int ?_
    try simp only [xNn_some, add_mk, cell_mk, upd_at, del_at, if_true, if_false, Option.bind_some, List.getElem?_toArray, List.getElem?_cons_succ, List.getElem?_cons_zero, oI_some, oS_some, oM_some, oB_some, oP_some, oT_some, xIdx_some, Nat.zero_add, Nat.add_zero, Nat.mul_one, d1, cm]
    refine ⟨fun _ => .no (by simp only [Ms.leave, hf]) r1 x1, fun hx => (by cases hx)⟩
  | some n =>
    refine look_int ?_
    try simp only [xNn_some, add_mk, cell_mk, upd_at, del_at, if_true, if_false, Option.bind_some, List.getElem?_toArray, List.getElem?_cons_succ, List.getElem?_cons_zero, oI_some, oS_some, oM_some, oB_some, oP_some, oT_some, xIdx_some, Nat.zero_add, Nat.add_zero, Nat.mul_one, d1, cm]
    refine ⟨fun hx => (by cases hx), fun _ => ?_⟩
    refine xDraw_del L.wb ?_
    try simp only [xNn_some, add_mk, cell_mk, upd_at, del_at, if_true, if_false, Option.bind_some, List.getElem?_toArray, List.getElem?_cons_succ, List.getElem?_cons_zero, oI_some, oS_some, oM_some, oB_some, oP_some, oT_some, xIdx_some, Nat.zero_add, Nat.add_zero, Nat.mul_one, d1, d4.symm, n3, cm]
    refine del_rep r1.cw o t fun O m1 => ?_
    have r2 := r1.setWb m1
    refine ⟨PH.del_le_upd (PH.del_le _ _), ?_⟩
    refine xDraw_self ?_
    try simp only [xNn_some, add_mk, cell_mk, upd_at, del_at, if_true, if_false, Option.bind_some, List.getElem?_toArray, List.getElem?_cons_succ, List.getElem?_cons_zero, oI_some, oS_some, oM_some, oB_some, oP_some, oT_some, xIdx_some, Nat.zero_add, Nat.add_zero, Nat.mul_one, d1, d4.symm, n3, cm]
    refine put_rep r2.cl o t (n, w) rfl fun O m2 => ?_
    exact .yes (by simp only [Ms.leave, hf]) (r2.setLb m2) ((x1.upd_in (wb_in L)).upd_in (lb_in L))

theorem meets_begin {h : PH} {L : ML} {s : Ms} (r : MRep h L s) (e : Ev) (ho : OIn s e.obj) (ht0 : 0 ≤ e.thread) (ht : e.thread.toNat < s.flags.length) : Meets Try.prog 79 #[mp L, evV e] h (Upd h L s (s.begin e)) := by
  have hlt : e.thread < (s.flags.length : Int) := by omega
  apply P_model_Model_begin_of
  unfold P_model_Model_begin
  intro b hb
  obtain ⟨d1, d2, d3, d4, d5⟩ := r.off hb
  obtain ⟨n1, n2, n3, n4, n5, n6, n7, n8, n9, n10⟩ := r.nes
  obtain ⟨c, c', cm⟩ := r.cm
  obtain ⟨j, co⟩ := r.co
  obtain ⟨j', cf⟩ := r.cf
  have r1 := r.new (O := .cells #[.int .i64 e.kind, .int .i64 e.thread, .int .i64 e.obj, .int .i64 e.arg, .int .i64 e.err] 33 (0, 0)) hb
  have x1 : Ext L.all h _ := (Ext.refl L.all h).upd_new (O := .cells #[.int .i64 e.kind, .int .i64 e.thread, .int .i64 e.obj, .int .i64 e.arg, .int .i64 e.err] 33 (0, 0)) hb
  refine xDraw_self ?_
  simp only [xNn_some, add_mk, cell_mk, upd_at, del_at, if_true, if_false, Option.bind_some, List.getElem?_toArray, List.getElem?_cons_succ, List.getElem?_cons_zero, oI_some, oS_some, oM_some, oB_some, oP_some, oT_some, xIdx_some, Nat.zero_add, Nat.add_zero, Nat.mul_one, d1, cm, xBlk]
  refine ⟨ho.h0, ho.lt, ?_⟩
  refine xDraw_self ?_
  try simp only [xNn_some, add_mk, cell_mk, upd_at, del_at, if_true, if_false, Option.bind_some, List.getElem?_toArray, List.getElem?_cons_succ, List.getElem?_cons_zero, oI_some, oS_some, oM_some, oB_some, oP_some, oT_some, xIdx_some, Nat.zero_add, Nat.add_zero, Nat.mul_one, d1, d3, cm, cf, flArr_get ht]
  refine ⟨ht0, hlt, ?_⟩
  refine (meets_owns r1 e ho).look ?_
  try simp only [xNn_some, add_mk, cell_mk, upd_at, del_at, if_true, if_false, Option.bind_some, List.getElem?_toArray, List.getElem?_cons_succ, List.getElem?_cons_zero, oI_some, oS_some, oM_some, oB_some, oP_some, oT_some, xIdx_some, Nat.zero_add, Nat.add_zero, Nat.mul_one, d1, d3, cm, cf]
  refine ⟨PH.le_refl _, ?_⟩
  refine ⟨fun hc => ?_, fun hc => ?_⟩
  · have hc := beq_iff_eq.1 hc
    refine .look _ ?_ r1 x1
    simp only [Ms.begin, hc, if_true]
    cases s.owns e <;> rfl
  have hc0 : e.err ≠ 9 := by simpa using hc
  refine ⟨fun hc => ?_, fun hc => ?_⟩
  · have hc := beq_iff_eq.1 hc
    exact .look _ (by simp only [Ms.begin, hc]; rfl) r1 x1
  have hc1 : e.err ≠ 11 := by simpa using hc
  refine ⟨fun hc => ?_, fun hc => ?_⟩
  · have hc := beq_iff_eq.1 hc
    refine xSc_and (s.flag e.thread) (fun _ J hJ => hJ) ⟨fun hx => ?_, fun hx => ?_⟩
    · refine xDraw_self ?_
      try simp only [xNn_some, add_mk, cell_mk, upd_at, del_at, if_true, if_false, Option.bind_some, List.getElem?_toArray, List.getElem?_cons_succ, List.getElem?_cons_zero, oI_some, oS_some, oM_some, oB_some, oP_some, oT_some, xIdx_some, Nat.zero_add, Nat.add_zero, Nat.mul_one, d1, d3, cm, cf]
      refine ⟨ht0, hlt, ?_⟩
      refine st_flag r1 ht false fun O r2 => ?_
      refine xSc_and (s.flag e.thread) (fun _ J hJ => hJ) ?_
      rw [hx]
      exact .yes (by simp only [Ms.begin, hc]; simp only [hx]; rfl) r2 (x1.upd_in (fb_in L))
    · refine xSc_and (s.flag e.thread) (fun _ J hJ => hJ) ?_
      rw [hx]
      exact .no (by simp only [Ms.begin, hc]; simp only [hx]; rfl) r1 x1
  have hc2 : e.err ≠ 12 := by simpa using hc
  refine ⟨fun hc => ?_, fun hc => ?_⟩
  · have hc := beq_iff_eq.1 hc
    refine ⟨fun hx => ?_, fun hx => ?_⟩
    · have hx : s.owns e = false := by simpa using hx
      exact .no (by simp only [Ms.begin, hc]; simp only [hx]; rfl) r1 x1
    have hx : s.owns e = true := by simpa using hx
    refine xDraw_self ?_
    try simp only [xNn_some, add_mk, cell_mk, upd_at, del_at, if_true, if_false, Option.bind_some, List.getElem?_toArray, List.getElem?_cons_succ, List.getElem?_cons_zero, oI_some, oS_some, oM_some, oB_some, oP_some, oT_some, xIdx_some, Nat.zero_add, Nat.add_zero, Nat.mul_one, d1, d2, cm, co, moArr_1 ho.h1]
    refine put_rep r1.cw e.obj e.thread (s.mon e.obj).count rfl fun O m1 => ?_
    have r2 := r1.setWb m1
    have ho2 : OIn { s with waits := s.waits.put e.obj e.thread (s.mon e.obj).count } e.obj := ⟨ho.h0, ho.h1⟩
    try simp only [xNn_some, add_mk, cell_mk, upd_at, del_at, if_true, if_false, Option.bind_some, List.getElem?_toArray, List.getElem?_cons_succ, List.getElem?_cons_zero, oI_some, oS_some, oM_some, oB_some, oP_some, oT_some, xIdx_some, Nat.zero_add, Nat.add_zero, Nat.mul_one, d1, d2, n6, cm, co, moArr_2 ho.h1]
    refine st_mon0 r2 ho2 _ ⟨-1, 0, (s.mon e.obj).hash⟩ rfl (by decide) (by simp [oneCell]) rfl (by simp) fun O r3 => ?_
    exact .yes (by simp only [Ms.begin, hc]; simp only [hx]; rfl) r3 ((x1.upd_in (wb_in L)).upd_in (ob_in L))
  have hc3 : e.err ≠ 0 := by simpa using hc
  exact .no (by simp only [Ms.begin, hc0, hc1, hc2, hc3, if_false]) r1 x1

set_option maxHeartbeats 400000 in
theorem meets_end {h : PH} {L : ML} {s : Ms} (r : MRep h L s) (e : Ev) (ho : OIn s e.obj) (ht0 : 0 ≤ e.thread) (ht : e.thread.toNat < s.flags.length) : Meets Try.prog 81 #[mp L, evV e] h (Upd h L s (s.fin e)) := by
  have hlt : e.thread < (s.flags.length : Int) := by omega
  apply P_model_Model_end_of
  unfold P_model_Model_end
  intro b hb
  obtain ⟨d1, d2, d3, d4, d5⟩ := r.off hb
  obtain ⟨n1, n2, n3, n4, n5, n6, n7, n8, n9, n10⟩ := r.nes
  obtain ⟨c, c', cm⟩ := r.cm
  obtain ⟨j, co⟩ := r.co
  obtain ⟨j', cf⟩ := r.cf
  have r1 := r.new (O := .cells #[.int .i64 e.kind, .int .i64 e.thread, .int .i64 e.obj, .int .i64 e.arg, .int .i64 e.err] 33 (0, 0)) hb
  have x1 : Ext L.all h _ := (Ext.refl L.all h).upd_new (O := .cells #[.int .i64 e.kind, .int .i64 e.thread, .int .i64 e.obj, .int .i64 e.arg, .int .i64 e.err] 33 (0, 0)) hb
  refine xDraw_self ?_
  simp only [xNn_some, add_mk, cell_mk, upd_at, del_at, if_true, if_false, Option.bind_some, List.getElem?_toArray, List.getElem?_cons_succ, List.getElem?_cons_zero, oI_some, oS_some, oM_some, oB_some, oP_some, oT_some, xIdx_some, Nat.zero_add, Nat.add_zero, Nat.mul_one, d1, cm, xBlk]
  refine ⟨ho.h0, ho.lt, ?_⟩
  intro b6 hb6
  obtain ⟨b36, hb6'⟩ := upd_none hb6
  obtain ⟨u1, u2, u3, u4, u5⟩ := r.off hb6'
  refine xSt_mk (PH.upd_same _ _ _) rfl (by decide) (by simp [oneCell]) (by decide) ?_
  rw [PH.upd_upd, setN2]
  have r2 := r1.new (O := .cells #[.int .i64 e.obj, .int .i64 e.thread] 122 (0, 0)) hb6
  have x2 := x1.upd_new (O := .cells #[.int .i64 e.obj, .int .i64 e.thread] 122 (0, 0)) hb6'
  refine xDraw_self ?_
  try simp only [xNn_some, add_mk, cell_mk, upd_at, del_at, if_true, if_false, Option.bind_some, List.getElem?_toArray, List.getElem?_cons_succ, List.getElem?_cons_zero, oI_some, oS_some, oM_some, oB_some, oP_some, oT_some, xIdx_some, Nat.zero_add, Nat.add_zero, Nat.mul_one, d1, u1, cm]
  refine look_rep r2.cl e.obj e.thread ?_
  refine look_left ?_
  try simp only [xNn_some, add_mk, cell_mk, upd_at, del_at, if_true, if_false, Option.bind_some, List.getElem?_toArray, List.getElem?_cons_succ, List.getElem?_cons_zero, oI_some, oS_some, oM_some, oB_some, oP_some, oT_some, xIdx_some, Nat.zero_add, Nat.add_zero, Nat.mul_one]
  intro b7 hb7
  obtain ⟨b67, hb7'⟩ := upd_none hb7
  obtain ⟨b37, hb7'⟩ := upd_none hb7'
  obtain ⟨w1, w2, w3, w4, w5⟩ := r.off hb7'
  refine ⟨PH.le_upd hb7, ?_⟩
  refine xSt_mk (PH.upd_same _ _ _) rfl (by decide) (by simp [oneCell]) (by decide) ?_
  rw [PH.upd_upd, setN2]
  generalize hl : (s.left.find e.obj e.thread).getD (0, 0) = l
  have r3 := r2.new (O := .cells #[.int .i64 l.1, .int .i64 l.2] 125 (0, 0)) hb7
  have x3 := x2.upd_new (O := .cells #[.int .i64 l.1, .int .i64 l.2] 125 (0, 0)) hb7'
  refine ⟨PH.le_upd hb7, ?_⟩
  have eb : (((h.upd b (.cells #[.int .i64 e.kind, .int .i64 e.thread, .int .i64 e.obj, .int .i64 e.arg, .int .i64 e.err] 33 (0, 0))).upd b6 (.cells #[.int .i64 e.obj, .int .i64 e.thread] 122 (0, 0))).upd b7 (.cells #[.int .i64 l.1, .int .i64 l.2] 125 (0, 0))) b = some (.cells #[.int .i64 e.kind, .int .i64 e.thread, .int .i64 e.obj, .int .i64 e.arg, .int .i64 e.err] 33 (0, 0)) := by simp only [upd_at, b37, b36, if_true, if_false]
  have e6 : (((h.upd b (.cells #[.int .i64 e.kind, .int .i64 e.thread, .int .i64 e.obj, .int .i64 e.arg, .int .i64 e.err] 33 (0, 0))).upd b6 (.cells #[.int .i64 e.obj, .int .i64 e.thread] 122 (0, 0))).upd b7 (.cells #[.int .i64 l.1, .int .i64 l.2] 125 (0, 0))) b6 = some (.cells #[.int .i64 e.obj, .int .i64 e.thread] 122 (0, 0)) := by simp only [upd_at, b67, if_true, if_false]
  have e7 : (((h.upd b (.cells #[.int .i64 e.kind, .int .i64 e.thread, .int .i64 e.obj, .int .i64 e.arg, .int .i64 e.err] 33 (0, 0))).upd b6 (.cells #[.int .i64 e.obj, .int .i64 e.thread] 122 (0, 0))).upd b7 (.cells #[.int .i64 l.1, .int .i64 l.2] 125 (0, 0))) b7 = some (.cells #[.int .i64 l.1, .int .i64 l.2] 125 (0, 0)) := PH.upd_same _ _ _
  generalize (((h.upd b (.cells #[.int .i64 e.kind, .int .i64 e.thread, .int .i64 e.obj, .int .i64 e.arg, .int .i64 e.err] 33 (0, 0))).upd b6 (.cells #[.int .i64 e.obj, .int .i64 e.thread] 122 (0, 0))).upd b7 (.cells #[.int .i64 l.1, .int .i64 l.2] 125 (0, 0))) = h5 at eb e6 e7 r3 x3 ⊢
  clear r1 r2 x1 x2 hb hb6 hb7 cm co cf
  obtain ⟨c, c', cm⟩ := r3.cm
  obtain ⟨j, co⟩ := r3.co
  refine xSc_or ((s.mon e.obj).owner != -1) (fun _ J hJ => ?_) ?_
  · try simp only [xNn_some, add_mk, cell_mk, upd_at, del_at, if_true, if_false, Option.bind_some, List.getElem?_toArray, List.getElem?_cons_succ, List.getElem?_cons_zero, oI_some, oS_some, oM_some, oB_some, oP_some, oT_some, xIdx_some, Nat.zero_add, Nat.add_zero, Nat.mul_one, co, moArr_0 ho.h1]
    exact hJ
  refine xSc_or (l.2 != e.err) (fun _ J hJ => ?_) ?_
  · try simp only [xNn_some, add_mk, cell_mk, upd_at, del_at, if_true, if_false, Option.bind_some, List.getElem?_toArray, List.getElem?_cons_succ, List.getElem?_cons_zero, oI_some, oS_some, oM_some, oB_some, oP_some, oT_some, xIdx_some, Nat.zero_add, Nat.add_zero, Nat.mul_one, e7, eb]
    exact hJ
  have hopt : (Option.map encL (s.left.find e.obj e.thread)).isSome = (s.left.find e.obj e.thread).isSome := by simp
  rw [hopt]
  refine ⟨fun hx => ?_, fun hx => ?_⟩
  · refine .no ?_ r3 x3
    unfold Ms.fin
    cases hf : s.left.find e.obj e.thread with
    | none => rfl
    | some l' =>
      rw [hf] at hx hl
      simp only [Option.getD_some] at hl
      subst hl
      simp only [Option.isSome_some, Bool.not_true, Bool.false_or] at hx
      simp only [hx, if_true]
  cases hf : s.left.find e.obj e.thread with
  | none => rw [hf] at hx; simp at hx
  | some l' =>
    rw [hf] at hx hl
    simp only [Option.getD_some] at hl
    subst hl
    simp only [Option.isSome_some, Bool.not_true, Bool.false_or] at hx
    refine xDraw_del L.lb ?_
    try simp only [xNn_some, add_mk, cell_mk, upd_at, del_at, if_true, if_false, Option.bind_some, List.getElem?_toArray, List.getElem?_cons_succ, List.getElem?_cons_zero, oI_some, oS_some, oM_some, oB_some, oP_some, oT_some, xIdx_some, Nat.zero_add, Nat.add_zero, Nat.mul_one, n4, cm, e6, u5.symm]
    refine del_rep r3.cl e.obj e.thread fun O m1 => ?_
    have r4 := r3.setLb m1
    have x4 := x3.upd_in (lb_in L) (O := O)
    have eb4 : (h5.upd L.lb O) b = _ := (PH.upd_ne _ _ d5.symm).trans eb
    have e74 : (h5.upd L.lb O) b7 = _ := (PH.upd_ne _ _ w5.symm).trans e7
    refine ⟨PH.del_le_upd (PH.del_le _ _), ?_⟩
    clear r3 x3 eb e7 m1 cm co
    generalize h5.upd L.lb O = h6 at r4 x4 eb4 e74 ⊢
    refine xDraw_del L.ob ?_
    try simp only [xNn_some, add_mk, cell_mk, upd_at, del_at, if_true, if_false, Option.bind_some, List.getElem?_toArray, List.getElem?_cons_succ, List.getElem?_cons_zero, oI_some, oS_some, oM_some, oB_some, oP_some, oT_some, xIdx_some, Nat.zero_add, Nat.add_zero, Nat.mul_one, eb4, e74, d2.symm, w2.symm]
    have ho4 : OIn { s with left := s.left.del e.obj e.thread } e.obj := ⟨ho.h0, ho.h1⟩
    refine st_mon0 r4 ho4 _ ⟨e.thread, (s.mon e.obj).count, (s.mon e.obj).hash⟩ rfl (by decide) (by simp [oneCell]) rfl (by simp) fun O r5 => ?_
    refine ⟨PH.del_le_upd (PH.del_le _ _), ?_⟩
    have ho5 := ho4.set ⟨e.thread, (s.mon e.obj).count, (s.mon e.obj).hash⟩
    have e5 := mon_setMon ho4 ⟨e.thread, (s.mon e.obj).count, (s.mon e.obj).hash⟩
    refine st_mon r5 ho5 1 _ ⟨e.thread, l'.1, (s.mon e.obj).hash⟩ rfl (by decide) (by simp [oneCell]) (by rw [e5]; rfl) (by simp) fun O' r6 => ?_
    rw [setMon_setMon] at r6
    have x6 := (x4.upd_in (ob_in L) (O := O)).upd_in (ob_in L) (O := O')
    have eb6 : ((h6.upd L.ob O).upd L.ob O') b = _ := (PH.upd_ne _ _ d2.symm).trans ((PH.upd_ne _ _ d2.symm).trans eb4)
    generalize (h6.upd L.ob O).upd L.ob O' = h7 at r6 x6 eb6 ⊢
    clear r4 r5 eb4 e74 x4
    obtain ⟨c, c', cm⟩ := r6.cm
    try simp only [xNn_some, add_mk, cell_mk, upd_at, del_at, if_true, if_false, Option.bind_some, List.getElem?_toArray, List.getElem?_cons_succ, List.getElem?_cons_zero, oI_some, oS_some, oM_some, oB_some, oP_some, oT_some, xIdx_some, Nat.zero_add, Nat.add_zero, Nat.mul_one, eb6]
    refine ⟨fun hc => ?_, fun hc => ?_⟩
    · have hc := beq_iff_eq.1 hc
      refine xDraw_self ?_
      try simp only [xNn_some, add_mk, cell_mk, upd_at, del_at, if_true, if_false, Option.bind_some, List.getElem?_toArray, List.getElem?_cons_succ, List.getElem?_cons_zero, oI_some, oS_some, oM_some, oB_some, oP_some, oT_some, xIdx_some, Nat.zero_add, Nat.add_zero, Nat.mul_one, eb6, cm]
      refine ⟨ht0, hlt, ?_⟩
      refine st_flag r6 ht false fun O r7 => ?_
      refine .yes ?_ r7 (x6.upd_in (fb_in L))
      rw [hc] at hx
      simp only [Ms.fin, hf, hc, hx, if_true]; rfl
    · have hc : e.err ≠ 12 := by simpa using hc
      refine .yes ?_ r6 x6
      simp only [Ms.fin, hf, hx, hc, if_false]; rfl

end Go.Md

/-
  Waiters, Left; the tellers: Wake, Notify, All.
-/
set_option linter.unusedSimpArgs false
set_option linter.unusedVariables false
namespace Go.Md
open Go Go.Sx Go.Proofs Go.Proofs.Ytnnedfhpicdacaa

theorem IntsAt.from {g h h' : PH} {v : Value} {l : List Int} (le : g.le h) (i : IntsAt h h' v l) : IntsAt g h' v l := by
  obtain ⟨p, n, c, S, e, i, l', nS⟩ := i
  exact ⟨p, n, c, S, e, i, PH.le_trans le l', fun b hb => none_of le (nS b hb)⟩

theorem meets_Waiters {h : PH} {L : ML} {s : Ms} (r : MRep h L s) (few : s.waits.length ≤ 64) (o : Int) : Meets Try.prog 22 #[mp L, .int .i64 o] h fun v h' => IntsAt h h' v (sortI (s.waiters o)) := by
  obtain ⟨c, c', cm⟩ := r.cm
  apply P_model_Model_Waiters_of
  unfold P_model_Model_Waiters
  refine (meets_ok r).look ?_
  simp only [xNn_some, add_mk, cell_mk, upd_at, del_at, if_true, if_false, Option.bind_some, List.getElem?_toArray, List.getElem?_cons_succ, List.getElem?_cons_zero, oI_some, oS_some, oM_some, oB_some, oP_some, oT_some, xIdx_some, Nat.zero_add, Nat.add_zero, Nat.mul_one]
  refine ⟨fun hx => (by cases hx), fun _ => ?_⟩
  simp only [xNn_some, add_mk, cell_mk, upd_at, del_at, if_true, if_false, Option.bind_some, List.getElem?_toArray, List.getElem?_cons_succ, List.getElem?_cons_zero, oI_some, oS_some, oM_some, oB_some, oP_some, oT_some, xIdx_some, Nat.zero_add, Nat.add_zero, Nat.mul_one, cm]
  refine (meets_threads_waits r.cw few o).mono ?_
  rintro v h' i
  obtain ⟨p, n, c, S, rfl, i2⟩ := i
  simp only [xNn_some, add_mk, cell_mk, upd_at, del_at, if_true, if_false, Option.bind_some, List.getElem?_toArray, List.getElem?_cons_succ, List.getElem?_cons_zero, oI_some, oS_some, oM_some, oB_some, oP_some, oT_some, xIdx_some, Nat.zero_add, Nat.add_zero, Nat.mul_one]
  exact ⟨p, n, c, S, rfl, i2⟩

theorem meets_Left {h : PH} {L : ML} {s : Ms} (r : MRep h L s) (few : s.left.length ≤ 64) (o : Int) : Meets Try.prog 23 #[mp L, .int .i64 o] h fun v h' => IntsAt h h' v (sortI (s.leavers o)) := by
  obtain ⟨c, c', cm⟩ := r.cm
  apply P_model_Model_Left_of
  unfold P_model_Model_Left
  refine (meets_ok r).look ?_
  simp only [xNn_some, add_mk, cell_mk, upd_at, del_at, if_true, if_false, Option.bind_some, List.getElem?_toArray, List.getElem?_cons_succ, List.getElem?_cons_zero, oI_some, oS_some, oM_some, oB_some, oP_some, oT_some, xIdx_some, Nat.zero_add, Nat.add_zero, Nat.mul_one]
  refine ⟨fun hx => (by cases hx), fun _ => ?_⟩
  simp only [xNn_some, add_mk, cell_mk, upd_at, del_at, if_true, if_false, Option.bind_some, List.getElem?_toArray, List.getElem?_cons_succ, List.getElem?_cons_zero, oI_some, oS_some, oM_some, oB_some, oP_some, oT_some, xIdx_some, Nat.zero_add, Nat.add_zero, Nat.mul_one, cm]
  refine (meets_threads_left r.cl few o).mono ?_
  rintro v h' i
  obtain ⟨p, n, c, S, rfl, i2⟩ := i
  simp only [xNn_some, add_mk, cell_mk, upd_at, del_at, if_true, if_false, Option.bind_some, List.getElem?_toArray, List.getElem?_cons_succ, List.getElem?_cons_zero, oI_some, oS_some, oM_some, oB_some, oP_some, oT_some, xIdx_some, Nat.zero_add, Nat.add_zero, Nat.mul_one]
  exact ⟨p, n, c, S, rfl, i2⟩

theorem Upd.from {h h1 h' : PH} {L : ML} {s : Ms} {o : Option Ms} {v : Value} (x : Ext L.all h h1) (u : Upd h1 L s o v h') : Upd h L s o v h' := ⟨u.1, u.2.1, x.trans' u.2.2⟩

theorem meets_tell {h : PH} {L : ML} {s : Ms} (r : MRep h L s) (few : s.waits.length ≤ 64) (e : Ev) (ho : OIn s e.obj) : Meets Try.prog 82 #[mp L, evV e] h (Upd h L s (s.tell e)) := by
  apply P_model_Model_tell_of
  unfold P_model_Model_tell
  intro b hb
  have r1 := r.new (O := .cells #[.int .i64 e.kind, .int .i64 e.thread, .int .i64 e.obj, .int .i64 e.arg, .int .i64 e.err] 33 (0, 0)) hb
  have x1 : Ext L.all h _ := (Ext.refl L.all h).upd_new (O := .cells #[.int .i64 e.kind, .int .i64 e.thread, .int .i64 e.obj, .int .i64 e.arg, .int .i64 e.err] 33 (0, 0)) hb
  have eb : (h.upd b (.cells #[.int .i64 e.kind, .int .i64 e.thread, .int .i64 e.obj, .int .i64 e.arg, .int .i64 e.err] 33 (0, 0))) b = some (.cells #[.int .i64 e.kind, .int .i64 e.thread, .int .i64 e.obj, .int .i64 e.arg, .int .i64 e.err] 33 (0, 0)) := PH.upd_same _ _ _
  generalize h.upd b (.cells #[.int .i64 e.kind, .int .i64 e.thread, .int .i64 e.obj, .int .i64 e.arg, .int .i64 e.err] 33 (0, 0)) = h1 at r1 x1 eb ⊢
  simp only [xNn_some, add_mk, cell_mk, upd_at, del_at, if_true, if_false, Option.bind_some, List.getElem?_toArray, List.getElem?_cons_succ, List.getElem?_cons_zero, oI_some, oS_some, oM_some, oB_some, oP_some, oT_some, xIdx_some, Nat.zero_add, Nat.add_zero, Nat.mul_one, eb]
  refine (meets_owns r1 e ho).look ?_
  simp only [xNn_some, add_mk, cell_mk, upd_at, del_at, if_true, if_false, Option.bind_some, List.getElem?_toArray, List.getElem?_cons_succ, List.getElem?_cons_zero, oI_some, oS_some, oM_some, oB_some, oP_some, oT_some, xIdx_some, Nat.zero_add, Nat.add_zero, Nat.mul_one, eb]
  refine (meets_Waiters r1 few e.obj).mono ?_
  rintro v h2 ⟨sp, sn, sc, S, rfl, i, l2, nS⟩
  have hn : sn = (s.waiters e.obj).length := i.1.trans (sortI_length _)
  have r2 := r1.le l2
  have x2 : Ext L.all h h2 := x1.trans' (Ext.of_le l2)
  have eb2 := l2 _ _ eb
  clear i l2 nS r1 x1 eb
  subst hn
  have hcast : ∀ n : Nat, (((n : Nat) : Int) == 0) = (n == 0) := fun n => by
    by_cases h : n = 0
    · subst h; rfl
    · have h1 : ((n : Int) == 0) = false := by simpa using h
      have h2 : (n == 0) = false := by simpa using h
      rw [h1, h2]
  simp only [xNn_some, add_mk, cell_mk, upd_at, del_at, if_true, if_false, Option.bind_some, List.getElem?_toArray, List.getElem?_cons_succ, List.getElem?_cons_zero, oI_some, oS_some, oM_some, oB_some, oP_some, oT_some, xIdx_some, Nat.zero_add, Nat.add_zero, Nat.mul_one, eb2, xBlk, hcast]
  refine ⟨fun hc => ?_, fun hc => ?_⟩
  · have hc := beq_iff_eq.1 hc
    refine xSc_and (s.owns e) (fun _ J hJ => hJ) ?_
    have key : s.tell e = if (e.err == 0 && s.owns e) = true then s.leave e.obj e.arg 0 else none := by unfold Ms.tell; rw [if_pos hc]
    refine ⟨fun hx => ?_, fun hx => ?_⟩
    · simp only [xNn_some, add_mk, cell_mk, upd_at, del_at, if_true, if_false, Option.bind_some, List.getElem?_toArray, List.getElem?_cons_succ, List.getElem?_cons_zero, oI_some, oS_some, oM_some, oB_some, oP_some, oT_some, xIdx_some, Nat.zero_add, Nat.add_zero, Nat.mul_one, eb2]
      refine (meets_leave r2 e.obj e.arg 0).mono ?_
      intro v h3 u
      have := u.1
      subst this
      simp only [oB_some]
      have u' := Upd.from x2 u
      rw [key, if_pos hx]
      exact u'
    · rw [hx]
      exact .no (by rw [key, if_neg (by simp [hx])]) r2 x2
  have h7 : e.kind ≠ 7 := by simpa using hc
  refine ⟨fun hc => ?_, fun hc => ?_⟩
  · have hc := beq_iff_eq.1 hc
    have key : s.tell e = if (!s.owns e && (e.kind == 9 && e.arg == 0 || e.kind == 8 && e.arg == -1)) = true then some s else none := by unfold Ms.tell; rw [if_neg h7, if_pos hc]
    refine xSc_and (e.kind == 9 && e.arg == 0 || e.kind == 8 && e.arg == -1) (fun _ J hJ => ?_) (.look _ key r2 x2)
    refine xSc_and (e.arg == 0) (fun _ J hJ => hJ) ?_
    refine xSc_or (e.kind == 8 && e.arg == -1) (fun _ J hJ => ?_) hJ
    simp only [xNn_some, add_mk, cell_mk, upd_at, del_at, if_true, if_false, Option.bind_some, List.getElem?_toArray, List.getElem?_cons_succ, List.getElem?_cons_zero, oI_some, oS_some, oM_some, oB_some, oP_some, oT_some, xIdx_some, Nat.zero_add, Nat.add_zero, Nat.mul_one, eb2]
    exact xSc_and (e.arg == -1) (fun _ J hJ => hJ) hJ
  have h9 : e.err ≠ 9 := by simpa using hc
  refine xSc_or (!s.owns e) (fun _ J hJ => hJ) ?_
  refine ⟨fun hx => ?_, fun hx => ?_⟩
  · exact .no (by unfold Ms.tell; rw [if_neg h7, if_neg h9, if_pos hx]) r2 x2
  have hx' : ¬(e.err != 0 || !s.owns e) = true := by simp [hx]
  simp only [xNn_some, add_mk, cell_mk, upd_at, del_at, if_true, if_false, Option.bind_some, List.getElem?_toArray, List.getElem?_cons_succ, List.getElem?_cons_zero, oI_some, oS_some, oM_some, oB_some, oP_some, oT_some, xIdx_some, Nat.zero_add, Nat.add_zero, Nat.mul_one, eb2, hcast]
  refine ⟨fun hk => ?_, fun hk => ?_⟩
  · have hk' := beq_iff_eq.1 hk
    have key : s.tell e = if (e.arg == 0 && (s.waiters e.obj).length == 0) = true then some s else none := by unfold Ms.tell; rw [if_neg h7, if_neg h9, if_neg hx', if_pos hk']
    exact xSc_and ((s.waiters e.obj).length == 0) (fun _ J hJ => hJ) (.look _ key r2 x2)
  have hk' : e.kind ≠ 9 := by simpa using hk
  have key : s.tell e = if (s.isThread e.arg || e.arg == -1 && (s.waiters e.obj).length == 0) = true then some s else none := by unfold Ms.tell; rw [if_neg h7, if_neg h9, if_neg hx', if_neg hk']
  simp only [xNn_some, add_mk, cell_mk, upd_at, del_at, if_true, if_false, Option.bind_some, List.getElem?_toArray, List.getElem?_cons_succ, List.getElem?_cons_zero, oI_some, oS_some, oM_some, oB_some, oP_some, oT_some, xIdx_some, Nat.zero_add, Nat.add_zero, Nat.mul_one, eb2]
  refine (meets_isThread r2 e.arg).look ?_
  simp only [xNn_some, add_mk, cell_mk, upd_at, del_at, if_true, if_false, Option.bind_some, List.getElem?_toArray, List.getElem?_cons_succ, List.getElem?_cons_zero, oI_some, oS_some, oM_some, oB_some, oP_some, oT_some, xIdx_some, Nat.zero_add, Nat.add_zero, Nat.mul_one, eb2, hcast]
  refine xSc_or (e.arg == -1 && (s.waiters e.obj).length == 0) (fun _ J hJ => ?_) (.look _ key r2 x2)
  exact xSc_and ((s.waiters e.obj).length == 0) (fun _ J hJ => hJ) hJ

end Go.Md

/-
  A transition, whole; what is asked of a model.
-/
set_option linter.unusedSimpArgs false
set_option linter.unusedVariables false
namespace Go.Md
open Go Go.Sx Go.Proofs Go.Proofs.Ytnnedfhpicdacaa

/-- What an event must be, for a transition to be tried. -/
structure EvIn (s : Ms) (e : Ev) : Prop where
  o : OIn s e.obj
  t0 : 0 ≤ e.thread
  t1 : e.thread.toNat < s.flags.length

theorem Upd.trans {h h1 h' : PH} {L : ML} {s : Ms} {o : Option Ms} {v : Value} (x : Ext L.all h h1) (u : Upd h1 L s o v h') : Upd h L s o v h' := ⟨u.1, u.2.1, x.trans' u.2.2⟩

theorem upd_call {f : FuncId} {args : Array Value} {h h1 : PH} {L : ML} {s : Ms} {o : Option Ms} {Q : Value → PH → Prop} (m : Meets Try.prog f args h1 (Upd h1 L s o)) (x : Ext L.all h h1)
    (k : ∀ h', Upd h L s o (.bool o.isSome) h' → Q (.bool o.isSome) h') : Meets Try.prog f args h1 Q :=
  m.mono fun v h' u => by have := u.1; subst this; exact k h' (u.trans x)

set_option maxHeartbeats 1000000 in
theorem meets_apply {h : PH} {L : ML} {s : Ms} (r : MRep h L s) (e : Ev) (ei : EvIn s e) (few : s.waits.length ≤ 64) : Meets Try.prog 52 #[mp L, evV e] h (Upd h L s (s.apply e)) := by
  have hlt : e.thread < (s.flags.length : Int) := by have := ei.t1; have := ei.t0; omega
  have hfl := r.nf
  have hmf : ∀ x : Int, s.isThread x = true → 0 ≤ x ∧ x < (s.flags.length : Int) ∧ x.toNat < s.flags.length := by
    intro x hx
    simp only [Ms.isThread, Bool.and_eq_true, decide_eq_true_eq] at hx
    omega
  apply P_model_Model_apply_of
  unfold P_model_Model_apply
  intro b hb
  obtain ⟨d1, d2, d3, d4, d5⟩ := r.off hb
  have r1 := r.new (O := .cells #[.int .i64 e.kind, .int .i64 e.thread, .int .i64 e.obj, .int .i64 e.arg, .int .i64 e.err] 33 (0, 0)) hb
  have x1 : Ext L.all h _ := (Ext.refl L.all h).upd_new (O := .cells #[.int .i64 e.kind, .int .i64 e.thread, .int .i64 e.obj, .int .i64 e.arg, .int .i64 e.err] 33 (0, 0)) hb
  have eb : (h.upd b (.cells #[.int .i64 e.kind, .int .i64 e.thread, .int .i64 e.obj, .int .i64 e.arg, .int .i64 e.err] 33 (0, 0))) b = some (.cells #[.int .i64 e.kind, .int .i64 e.thread, .int .i64 e.obj, .int .i64 e.arg, .int .i64 e.err] 33 (0, 0)) := PH.upd_same _ _ _
  generalize h.upd b (.cells #[.int .i64 e.kind, .int .i64 e.thread, .int .i64 e.obj, .int .i64 e.arg, .int .i64 e.err] 33 (0, 0)) = h1 at r1 x1 eb ⊢
  obtain ⟨c, c', cm⟩ := r1.cm
  obtain ⟨j', cf⟩ := r1.cf
  try simp only [xNn_some, add_mk, cell_mk, upd_at, del_at, if_true, if_false, Option.bind_some, List.getElem?_toArray, List.getElem?_cons_succ, List.getElem?_cons_zero, oI_some, oS_some, oM_some, oB_some, oP_some, oT_some, xIdx_some, Nat.zero_add, Nat.add_zero, Nat.mul_one, eb, xBlk]
  -- Enter, Try
  have two : ∀ K : Bool → PH → Prop, K (e.kind == 1 || e.kind == 2) h1 → xIte (e.kind == 1) (fun J => J (e.kind == 1) h1) (fun J => J (e.kind == 2) h1) K := by
    intro K hK
    refine ⟨fun hc => ?_, fun hc => ?_⟩
    · rw [hc] at hK ⊢; exact hK
    · rw [hc] at hK; exact hK
  have call0 : ∀ {f : FuncId} {o : Option Ms} {h1 : PH}, Meets Try.prog f #[mp L, evV e] h1 (Upd h1 L s o) → Ext L.all h h1 → MRep h1 L s → (s.apply e = if e.arg = 0 then o else none) →
      xSc (e.arg == 0) true (fun J => Meets Try.prog f #[mp L, evV e] h1 fun v h' => oB (some v) fun x => J x h') (fun x h' => Upd h L s (s.apply e) (.bool x) h') h1 := by
    intro f o h1 m x r1 ha
    refine ⟨fun hb => ?_, fun hb => ?_⟩
    · have hb := beq_iff_eq.1 hb
      refine upd_call m x fun h' u => ?_
      simp only [oB_some]
      rw [ha, if_pos hb]; exact u
    · have hb' : (e.arg == 0) = false := hb
      have hb : e.arg ≠ 0 := by simpa using hb'
      rw [hb']
      exact Upd.no (o := s.apply e) (by rw [ha, if_neg hb]) r1 x
  refine two _ ⟨fun hc => ?_, fun hc => ?_⟩
  · simp only [Bool.or_eq_true, beq_iff_eq] at hc
    try simp only [xNn_some, add_mk, cell_mk, upd_at, del_at, if_true, if_false, Option.bind_some, List.getElem?_toArray, List.getElem?_cons_succ, List.getElem?_cons_zero, oI_some, oS_some, oM_some, oB_some, oP_some, oT_some, xIdx_some, Nat.zero_add, Nat.add_zero, Nat.mul_one, eb]
    exact call0 (meets_enter r1 e ei.o) x1 r1 (by unfold Ms.apply; rw [if_pos hc])
  have h12 : ¬(e.kind = 1 ∨ e.kind = 2) := by
    intro hk; simp only [Bool.or_eq_false_iff, beq_eq_false_iff_ne] at hc
    rcases hk with hk | hk
    · exact hc.1 hk
    · exact hc.2 hk
  clear two hc
  refine ⟨fun hc => ?_, fun hc => ?_⟩
  · have hc := beq_iff_eq.1 hc
    try simp only [xNn_some, add_mk, cell_mk, upd_at, del_at, if_true, if_false, Option.bind_some, List.getElem?_toArray, List.getElem?_cons_succ, List.getElem?_cons_zero, oI_some, oS_some, oM_some, oB_some, oP_some, oT_some, xIdx_some, Nat.zero_add, Nat.add_zero, Nat.mul_one, eb]
    exact call0 (meets_exit r1 e ei.o) x1 r1 (by unfold Ms.apply; rw [if_neg h12, if_pos hc])
  have h3 : e.kind ≠ 3 := by simpa using hc
  refine ⟨fun hc => ?_, fun hc => ?_⟩
  · have hc := beq_iff_eq.1 hc
    try simp only [xNn_some, add_mk, cell_mk, upd_at, del_at, if_true, if_false, Option.bind_some, List.getElem?_toArray, List.getElem?_cons_succ, List.getElem?_cons_zero, oI_some, oS_some, oM_some, oB_some, oP_some, oT_some, xIdx_some, Nat.zero_add, Nat.add_zero, Nat.mul_one, eb]
    exact call0 (meets_begin r1 e ei.o ei.t0 ei.t1) x1 r1 (by unfold Ms.apply; rw [if_neg h12, if_neg h3, if_pos hc])
  have h4 : e.kind ≠ 4 := by simpa using hc
  refine ⟨fun hc => ?_, fun hc => ?_⟩
  · have hc := beq_iff_eq.1 hc
    refine xDraw_self ?_
    try simp only [xNn_some, add_mk, cell_mk, upd_at, del_at, if_true, if_false, Option.bind_some, List.getElem?_toArray, List.getElem?_cons_succ, List.getElem?_cons_zero, oI_some, oS_some, oM_some, oB_some, oP_some, oT_some, xIdx_some, Nat.zero_add, Nat.add_zero, Nat.mul_one, eb, cm]
    refine xSc_or (e.err == 12 && s.flag e.thread) (fun _ J hJ => ?_) ?_
    · refine xSc_and (s.flag e.thread) (fun _ J hJ => ?_) hJ
      try simp only [xNn_some, add_mk, cell_mk, upd_at, del_at, if_true, if_false, Option.bind_some, List.getElem?_toArray, List.getElem?_cons_succ, List.getElem?_cons_zero, oI_some, oS_some, oM_some, oB_some, oP_some, oT_some, xIdx_some, Nat.zero_add, Nat.add_zero, Nat.mul_one, eb, cm, cf, flArr_get ei.t1]
      exact ⟨ei.t0, hlt, hJ⟩
    refine xSc_and (e.err == 13 || e.err == 12 && s.flag e.thread) (fun _ J hJ => hJ) ?_
    have ha : s.apply e = if (e.arg == 0 && (e.err == 13 || e.err == 12 && s.flag e.thread)) = true then s.leave e.obj e.thread e.err else none := by unfold Ms.apply; rw [if_neg h12, if_neg h3, if_neg h4, if_pos hc]
    refine ⟨fun hx => ?_, fun hx => ?_⟩
    · try simp only [xNn_some, add_mk, cell_mk, upd_at, del_at, if_true, if_false, Option.bind_some, List.getElem?_toArray, List.getElem?_cons_succ, List.getElem?_cons_zero, oI_some, oS_some, oM_some, oB_some, oP_some, oT_some, xIdx_some, Nat.zero_add, Nat.add_zero, Nat.mul_one, eb, cm]
      refine upd_call (meets_leave r1 _ _ _) x1 fun h' u => ?_
      simp only [oB_some]
      rw [ha, if_pos hx]; exact u
    · rw [hx]
      exact Upd.no (o := s.apply e) (by rw [ha, if_neg (by simp [hx])]) r1 x1
  have h5 : e.kind ≠ 5 := by simpa using hc
  refine ⟨fun hc => ?_, fun hc => ?_⟩
  · have hc := beq_iff_eq.1 hc
    try simp only [xNn_some, add_mk, cell_mk, upd_at, del_at, if_true, if_false, Option.bind_some, List.getElem?_toArray, List.getElem?_cons_succ, List.getElem?_cons_zero, oI_some, oS_some, oM_some, oB_some, oP_some, oT_some, xIdx_some, Nat.zero_add, Nat.add_zero, Nat.mul_one, eb]
    exact call0 (meets_end r1 e ei.o ei.t0 ei.t1) x1 r1 (by unfold Ms.apply; rw [if_neg h12, if_neg h3, if_neg h4, if_neg h5, if_pos hc])
  have h6 : e.kind ≠ 6 := by simpa using hc
  have three : ∀ K : Bool → PH → Prop, K (e.kind == 7 || (e.kind == 8 || e.kind == 9)) h1 → xIte (e.kind == 7) (fun J => J (e.kind == 7) h1) (fun J => xIte (e.kind == 8) (fun J => J (e.kind == 8) h1) (fun J => J (e.kind == 9) h1) (fun x h' => J x h')) K := by
    intro K hK
    refine ⟨fun hc => ?_, fun hc => ⟨fun hc' => ?_, fun hc' => ?_⟩⟩
    · rw [hc] at hK ⊢; exact hK
    · rw [hc, hc'] at hK; rw [hc']; exact hK
    · rw [hc, hc'] at hK; exact hK
  refine three _ ⟨fun hc => ?_, fun hc => ?_⟩
  · simp only [Bool.or_eq_true, beq_iff_eq] at hc
    try simp only [xNn_some, add_mk, cell_mk, upd_at, del_at, if_true, if_false, Option.bind_some, List.getElem?_toArray, List.getElem?_cons_succ, List.getElem?_cons_zero, oI_some, oS_some, oM_some, oB_some, oP_some, oT_some, xIdx_some, Nat.zero_add, Nat.add_zero, Nat.mul_one, eb]
    refine upd_call (meets_tell r1 few e ei.o) x1 fun h' u => ?_
    simp only [oB_some]
    rw [show s.apply e = s.tell e from by unfold Ms.apply; rw [if_neg h12, if_neg h3, if_neg h4, if_neg h5, if_neg h6, if_pos hc]]
    exact u
  have h789 : ¬(e.kind = 7 ∨ e.kind = 8 ∨ e.kind = 9) := by
    intro hk; simp only [Bool.or_eq_false_iff, beq_eq_false_iff_ne] at hc
    rcases hk with hk | hk | hk
    · exact hc.1 hk
    · exact hc.2.1 hk
    · exact hc.2.2 hk
  clear three hc call0
  refine ⟨fun hc => ?_, fun hc => ?_⟩
  · have hc := beq_iff_eq.1 hc
    try simp only [xNn_some, add_mk, cell_mk, upd_at, del_at, if_true, if_false, Option.bind_some, List.getElem?_toArray, List.getElem?_cons_succ, List.getElem?_cons_zero, oI_some, oS_some, oM_some, oB_some, oP_some, oT_some, xIdx_some, Nat.zero_add, Nat.add_zero, Nat.mul_one, eb]
    refine upd_call (meets_hash r1 e ei.o) x1 fun h' u => ?_
    simp only [oB_some]
    rw [show s.apply e = s.hash e from by unfold Ms.apply; rw [if_neg h12, if_neg h3, if_neg h4, if_neg h5, if_neg h6, if_neg h789, if_pos hc]]
    exact u
  have h10 : e.kind ≠ 10 := by simpa using hc
  refine ⟨fun hc => ?_, fun hc => ?_⟩
  · have hc := beq_iff_eq.1 hc
    try simp only [xNn_some, add_mk, cell_mk, upd_at, del_at, if_true, if_false, Option.bind_some, List.getElem?_toArray, List.getElem?_cons_succ, List.getElem?_cons_zero, oI_some, oS_some, oM_some, oB_some, oP_some, oT_some, xIdx_some, Nat.zero_add, Nat.add_zero, Nat.mul_one, eb]
    refine upd_call (meets_holds r1 e ei.o) x1 fun h' u => ?_
    simp only [oB_some]
    rw [show s.apply e = s.holds e from by unfold Ms.apply; rw [if_neg h12, if_neg h3, if_neg h4, if_neg h5, if_neg h6, if_neg h789, if_neg h10, if_pos hc]]
    exact u
  have h11 : e.kind ≠ 11 := by simpa using hc
  refine ⟨fun hc => ?_, fun hc => ?_⟩
  · have hc := beq_iff_eq.1 hc
    try simp only [xNn_some, add_mk, cell_mk, upd_at, del_at, if_true, if_false, Option.bind_some, List.getElem?_toArray, List.getElem?_cons_succ, List.getElem?_cons_zero, oI_some, oS_some, oM_some, oB_some, oP_some, oT_some, xIdx_some, Nat.zero_add, Nat.add_zero, Nat.mul_one, eb]
    have ha : s.apply e = if (e.err != 0 || !s.isThread e.arg) = true then none else some (s.setFlag e.arg true) := by unfold Ms.apply; rw [if_neg h12, if_neg h3, if_neg h4, if_neg h5, if_neg h6, if_neg h789, if_neg h10, if_neg h11, if_pos hc]
    refine xSc_or (!s.isThread e.arg) (fun _ J hJ => ?_) ⟨fun hx => ?_, fun hx => ?_⟩
    · refine (meets_isThread r1 e.arg).look ?_
      try simp only [xNn_some, add_mk, cell_mk, upd_at, del_at, if_true, if_false, Option.bind_some, List.getElem?_toArray, List.getElem?_cons_succ, List.getElem?_cons_zero, oI_some, oS_some, oM_some, oB_some, oP_some, oT_some, xIdx_some, Nat.zero_add, Nat.add_zero, Nat.mul_one]
      exact hJ
    · exact Upd.no (o := s.apply e) (by rw [ha, if_pos hx]) r1 x1
    · have ht : s.isThread e.arg = true := by
        cases h : s.isThread e.arg with
        | true => rfl
        | false => rw [h] at hx; simp at hx
      obtain ⟨i0, i1, i2⟩ := hmf _ ht
      refine xDraw_self ?_
      try simp only [xNn_some, add_mk, cell_mk, upd_at, del_at, if_true, if_false, Option.bind_some, List.getElem?_toArray, List.getElem?_cons_succ, List.getElem?_cons_zero, oI_some, oS_some, oM_some, oB_some, oP_some, oT_some, xIdx_some, Nat.zero_add, Nat.add_zero, Nat.mul_one, eb, cm]
      refine ⟨i0, i1, ?_⟩
      refine st_flag r1 i2 true fun O r2 => ?_
      exact Upd.yes (o := s.apply e) (by rw [ha, if_neg (by simp [hx])]) r2 (x1.upd_in (fb_in L))
  have h12' : e.kind ≠ 12 := by simpa using hc
  exact .no (by unfold Ms.apply; rw [if_neg h12, if_neg h3, if_neg h4, if_neg h5, if_neg h6, if_neg h789, if_neg h10, if_neg h11, if_neg h12']) r1 x1

theorem evIn_of_may {s : Ms} {e : Ev} (h : s.may e = true) : EvIn s e := by
  simp only [Ms.may, Ms.isThread, Ms.isObj, Bool.and_eq_true, decide_eq_true_eq] at h
  obtain ⟨⟨⟨a, b⟩, c, d⟩, _⟩ := h
  exact ⟨⟨c, by omega⟩, a, by omega⟩

theorem meets_Apply {h : PH} {L : ML} {s : Ms} (r : MRep h L s) (e : Ev) (few : s.waits.length ≤ 64) :
    Meets Try.prog 14 #[mp L, evV e] h fun v h' => v = .int .i64 (s.code e) ∧ MRep h' L (s.next e) ∧ Ext L.all h h' := by
  apply P_model_Model_Apply_of
  unfold P_model_Model_Apply
  intro b hb
  have r1 := r.new (O := .cells #[.int .i64 e.kind, .int .i64 e.thread, .int .i64 e.obj, .int .i64 e.arg, .int .i64 e.err] 33 (0, 0)) hb
  have x1 : Ext L.all h _ := (Ext.refl L.all h).upd_new (O := .cells #[.int .i64 e.kind, .int .i64 e.thread, .int .i64 e.obj, .int .i64 e.arg, .int .i64 e.err] 33 (0, 0)) hb
  have eb : (h.upd b (.cells #[.int .i64 e.kind, .int .i64 e.thread, .int .i64 e.obj, .int .i64 e.arg, .int .i64 e.err] 33 (0, 0))) b = some (.cells #[.int .i64 e.kind, .int .i64 e.thread, .int .i64 e.obj, .int .i64 e.arg, .int .i64 e.err] 33 (0, 0)) := PH.upd_same _ _ _
  generalize h.upd b (.cells #[.int .i64 e.kind, .int .i64 e.thread, .int .i64 e.obj, .int .i64 e.arg, .int .i64 e.err] 33 (0, 0)) = h1 at r1 x1 eb ⊢
  try simp only [xNn_some, add_mk, cell_mk, upd_at, del_at, if_true, if_false, Option.bind_some, List.getElem?_toArray, List.getElem?_cons_succ, List.getElem?_cons_zero, oI_some, oS_some, oM_some, oB_some, oP_some, oT_some, xIdx_some, Nat.zero_add, Nat.add_zero, Nat.mul_one, eb]
  refine (meets_may r1 e).look ?_
  try simp only [xNn_some, add_mk, cell_mk, upd_at, del_at, if_true, if_false, Option.bind_some, List.getElem?_toArray, List.getElem?_cons_succ, List.getElem?_cons_zero, oI_some, oS_some, oM_some, oB_some, oP_some, oT_some, xIdx_some, Nat.zero_add, Nat.add_zero, Nat.mul_one, eb]
  cases hm : s.may e with
  | false =>
    refine ⟨fun hx => (by cases hx), fun _ => ⟨fun _ => ?_, fun hx => (by cases hx)⟩⟩
    have hs : s.step e = none := by simp only [Ms.step, hm, if_false, Bool.false_eq_true]
    refine ⟨by simp only [Ms.code, hs]; rfl, ?_, x1⟩
    rw [show s.next e = s from by simp only [Ms.next, hs]; rfl]
    exact r1
  | true =>
    refine ⟨fun _ => ?_, fun hx => (by cases hx)⟩
    refine upd_call (meets_apply r1 e (evIn_of_may hm) few) x1 fun h' u => ?_
    simp only [oB_some]
    have hs : s.step e = s.apply e := by simp only [Ms.step, hm, if_true]
    refine ⟨fun hx => ?_, fun hx => ?_⟩
    · have : s.apply e = none := by simpa using hx
      refine ⟨by simp only [Ms.code, hs, this]; rfl, ?_, u.2.2⟩
      rw [show s.next e = (s.apply e).getD s from by simp only [Ms.next, hs]]
      exact u.2.1
    · have : (s.apply e).isSome = true := by simpa using hx
      refine ⟨by simp only [Ms.code, hs, this, if_true], ?_, u.2.2⟩
      rw [show s.next e = (s.apply e).getD s from by simp only [Ms.next, hs]]
      exact u.2.1

end Go.Md

/-
  maps.Clone at this program's two maps.
-/
namespace Go.Md
open Go.Proofs Go.RowKit

set_option maxRecDepth 100000 in
set_option maxHeartbeats 2000000 in
theorem clone_waits (b : Nat) (es : Array MapEntry) (clock : Nat) (w : World) (hb : w.heap[b]? = some (.map es clock)) :
    Calls Try.prog 49 #[.map (some b)] w fun e w' => e = .returned (.map (some w.heap.size)) ∧ w' = w.alloc (.map es clock) := by
  have hq := fun w => run_eql_map_nil_sl (P := Try.prog) w 42 _ _ (some b) Try.underlying42
  go_enter Try.func49, Try.ntmps49
  go_wp2
  rw [run_callFunc_extern Try.func75 (by kernel_rfl) (by kernel_rfl) (by kernel_rfl) (e := Extern.MapsClone.clone) (by kernel_rfl), run_maps_clone_sl w 42 hb]
  simp only [Result.andThen]
  rw [Oper.upon_value]
  go_wp2
  rw [run_typeAssert_map_sl _ 42 20 _ _ _ Try.underlying42]
  simp only [Result.andThen]
  rw [Oper.upon_value]
  go_wp2
  go_ret
  exact ⟨rfl, rfl⟩

set_option maxRecDepth 100000 in
set_option maxHeartbeats 2000000 in
theorem clone_left (b : Nat) (es : Array MapEntry) (clock : Nat) (w : World) (hb : w.heap[b]? = some (.map es clock)) :
    Calls Try.prog 50 #[.map (some b)] w fun e w' => e = .returned (.map (some w.heap.size)) ∧ w' = w.alloc (.map es clock) := by
  have hq := fun w => run_eql_map_nil_sl (P := Try.prog) w 43 _ _ (some b) Try.underlying43
  go_enter Try.func50, Try.ntmps50
  go_wp2
  rw [run_callFunc_extern Try.func75 (by kernel_rfl) (by kernel_rfl) (by kernel_rfl) (e := Extern.MapsClone.clone) (by kernel_rfl), run_maps_clone_sl w 43 hb]
  simp only [Result.andThen]
  rw [Oper.upon_value]
  go_wp2
  rw [run_typeAssert_map_sl _ 43 20 _ _ _ Try.underlying43]
  simp only [Result.andThen]
  rw [Oper.upon_value]
  go_wp2
  go_ret
  exact ⟨rfl, rfl⟩

end Go.Md

/-
  New models, and clones.
-/
set_option linter.unusedSimpArgs false
set_option linter.unusedVariables false
namespace Go.Md
open Go Go.Sx Go.Proofs Go.Proofs.Ytnnedfhpicdacaa

theorem upd_del {h : PH} {b : Nat} {O : Obj} (n : h b = none) : (h.upd b O).del b = h := by
  funext x; simp only [del_at, upd_at]; split
  · rename_i e; subst e; exact n.symm
  · rfl

theorem meets_clone_mons {h : PH} {ob : Nat} {l : List Mo} {j : List Value} {n c : Nat} (co : h ob = some (.cells (moArr l j) 117 (0, 0))) (hn : n = l.length) (h8 : n ≤ 8) :
    Meets Try.prog 47 #[.slice (some ⟨ob, 0, none⟩) n c] h fun v h' => ∃ b cap j', v = .slice (some ⟨b, 0, none⟩) n cap ∧ h b = none ∧ h' = h.upd b (.cells (moArr l j') 117 (0, 0)) := by
  subst hn
  apply P_slices_Clone_model_monitor_model_monitor_of
  unfold P_slices_Clone_model_monitor_model_monitor
  refine ⟨fun hx => (by cases hx), fun _ => ?_⟩
  intro b5 hb5
  have hne : ob ≠ b5 := ne_of_known co hb5
  have hlen : ((l.map moV).flatten).length = l.length * 3 := by
    have := moArr_size (l := l) (junk := [])
    simpa [moArr] using this
  refine ⟨(l.map moV).flatten, l.length, ⟨rfl, hlen, ?_⟩, ?_, by omega, [], [], rfl, PH.upd_same _ _ _, rfl, by simp, Nat.le_refl _, ?_⟩
  · intro i hi
    simp only [add_mk, cell_mk, upd_at, hne, if_false, co, Option.bind_some, Nat.zero_add]
    simp only [moArr, List.getElem?_toArray]
    rw [List.getElem?_append_left (by omega)]
  · intro v hv
    simp only [List.mem_flatten, List.mem_map] at hv
    obtain ⟨_, ⟨m, _, rfl⟩, hv⟩ := hv
    simp only [moV, List.mem_cons, List.not_mem_nil, or_false] at hv
    rcases hv with rfl | rfl | rfl <;> rfl
  · intro b cap' junk hb hc hj
    rw [upd_del hb5] at hb ⊢
    simp only [Nat.zero_add] at hj ⊢
    exact ⟨b, cap', junk, rfl, hb, rfl⟩

theorem meets_clone_flags {h : PH} {fb : Nat} {l : List Bool} {j : List Value} {n c : Nat} (co : h fb = some (.cells (flArr l j) 4 (0, 0))) (hn : n = l.length) (h8 : n ≤ 8) :
    Meets Try.prog 48 #[.slice (some ⟨fb, 0, none⟩) n c] h fun v h' => ∃ b cap j', v = .slice (some ⟨b, 0, none⟩) n cap ∧ h b = none ∧ h' = h.upd b (.cells (flArr l j') 4 (0, 0)) := by
  subst hn
  apply P_slices_Clone_bool_bool_of
  unfold P_slices_Clone_bool_bool
  refine ⟨fun hx => (by cases hx), fun _ => ?_⟩
  intro b5 hb5
  have hne : fb ≠ b5 := ne_of_known co hb5
  refine ⟨l.map Value.bool, l.length, ⟨rfl, by simp, ?_⟩, ?_, by omega, [], [], rfl, PH.upd_same _ _ _, rfl, by simp, Nat.le_refl _, ?_⟩
  · intro i hi
    simp only [add_mk, cell_mk, upd_at, hne, if_false, co, Option.bind_some, Nat.zero_add]
    simp only [flArr, List.getElem?_toArray]
    rw [List.getElem?_append_left (by simpa using hi)]
  · intro v hv
    simp only [List.mem_map] at hv
    obtain ⟨b, _, rfl⟩ := hv
    rfl
  · intro b cap' junk hb hc hj
    rw [upd_del hb5] at hb ⊢
    simp only [Nat.zero_add] at hj ⊢
    exact ⟨b, cap', junk, rfl, hb, rfl⟩

theorem meets_clone_map {f : FuncId} (hc : ∀ (b : Nat) (es : Array MapEntry) (clock : Nat) (w : World), w.heap[b]? = some (.map es clock) → Calls Try.prog f #[.map (some b)] w fun e w' => e = .returned (.map (some w.heap.size)) ∧ w' = w.alloc (.map es clock))
    {h : PH} {b : Nat} {es : Array MapEntry} {cl : Nat} (hb : h b = some (.map es cl)) : Meets Try.prog f #[.map (some b)] h fun v h' => ∃ b', v = .map (some b') ∧ h b' = none ∧ h' = h.upd b' (.map es cl) := by
  intro W w st
  refine (hc b es cl w (st.sh _ _ hb)).mono ?_
  rintro e w' ⟨rfl, rfl⟩
  exact ⟨_, _, rfl, st.push _, _, rfl, st.fresh, rfl⟩
theorem meets_clone_waits {α : Type} {enc : α → Value} {h : PH} {b : Nat} {l : Pl α} (r : MapRep enc h b l) :
    Meets Try.prog 49 #[.map (some b)] h fun v h' => ∃ b' O, v = .map (some b') ∧ h b' = none ∧ h' = h.upd b' O ∧ MapRep enc h' b' l := by
  obtain ⟨es, cl, hb, x⟩ := r
  refine (meets_clone_map (fun b es clock w hb => clone_waits b es clock w hb) hb).mono ?_
  rintro v h' ⟨b', rfl, n, rfl⟩
  exact ⟨b', _, rfl, n, rfl, es, cl, PH.upd_same _ _ _, x⟩
theorem meets_clone_left {α : Type} {enc : α → Value} {h : PH} {b : Nat} {l : Pl α} (r : MapRep enc h b l) :
    Meets Try.prog 50 #[.map (some b)] h fun v h' => ∃ b' O, v = .map (some b') ∧ h b' = none ∧ h' = h.upd b' O ∧ MapRep enc h' b' l := by
  obtain ⟨es, cl, hb, x⟩ := r
  refine (meets_clone_map (fun b es clock w hb => clone_left b es clock w hb) hb).mono ?_
  rintro v h' ⟨b', rfl, n, rfl⟩
  exact ⟨b', _, rfl, n, rfl, es, cl, PH.upd_same _ _ _, x⟩

/-- A model that is new behind 'h'. -/
def Fresh (h h' : PH) (v : Value) (s : Ms) : Prop := ∃ L, v = mp L ∧ MRep h' L s ∧ h.le h' ∧ ∀ b ∈ L.all, h b = none

theorem meets_Clone {h : PH} {L : ML} {s : Ms} (r : MRep h L s) : Meets Try.prog 13 #[mp L] h fun v h' => Fresh h h' v s := by
  apply P_model_Model_Clone_of
  unfold P_model_Model_Clone
  refine (meets_ok r).look ?_
  try simp only [xNn_some, add_mk, cell_mk, upd_at, del_at, if_true, if_false, Option.bind_some, List.getElem?_toArray, List.getElem?_cons_succ, List.getElem?_cons_zero, oI_some, oS_some, oM_some, oB_some, oP_some, oT_some, xIdx_some, Nat.zero_add, Nat.add_zero, Nat.mul_one]
  refine ⟨fun hx => (by cases hx), fun _ => ?_⟩
  obtain ⟨c, c', cm⟩ := r.cm
  obtain ⟨j, co⟩ := r.co
  obtain ⟨j', cf⟩ := r.cf
  refine xDraw_self ?_
  try simp only [xNn_some, add_mk, cell_mk, upd_at, del_at, if_true, if_false, Option.bind_some, List.getElem?_toArray, List.getElem?_cons_succ, List.getElem?_cons_zero, oI_some, oS_some, oM_some, oB_some, oP_some, oT_some, xIdx_some, Nat.zero_add, Nat.add_zero, Nat.mul_one, cm]
  refine (meets_clone_mons co rfl r.nm).mono ?_
  rintro _ _ ⟨b1, cap1, j1, rfl, n1, rfl⟩
  try simp only [xNn_some, add_mk, cell_mk, upd_at, del_at, if_true, if_false, Option.bind_some, List.getElem?_toArray, List.getElem?_cons_succ, List.getElem?_cons_zero, oI_some, oS_some, oM_some, oB_some, oP_some, oT_some, xIdx_some, Nat.zero_add, Nat.add_zero, Nat.mul_one]
  have l1 : h.le _ := PH.le_upd (O := .cells (moArr s.mons j1) 117 (0, 0)) n1
  have k1 := PH.upd_same h b1 (.cells (moArr s.mons j1) 117 (0, 0))
  generalize h.upd b1 (.cells (moArr s.mons j1) 117 (0, 0)) = h1 at l1 k1 ⊢
  refine ⟨l1, ?_⟩
  refine (meets_clone_flags (l1 _ _ cf) rfl r.nf).mono ?_
  rintro _ _ ⟨b2, cap2, j2, rfl, n2, rfl⟩
  try simp only [xNn_some, add_mk, cell_mk, upd_at, del_at, if_true, if_false, Option.bind_some, List.getElem?_toArray, List.getElem?_cons_succ, List.getElem?_cons_zero, oI_some, oS_some, oM_some, oB_some, oP_some, oT_some, xIdx_some, Nat.zero_add, Nat.add_zero, Nat.mul_one]
  have l2 : h1.le _ := PH.le_upd (O := .cells (flArr s.flags j2) 4 (0, 0)) n2
  have k2 := PH.upd_same h1 b2 (.cells (flArr s.flags j2) 4 (0, 0))
  generalize h1.upd b2 (.cells (flArr s.flags j2) 4 (0, 0)) = h2 at l2 k2 ⊢
  have l2' := PH.le_trans l1 l2
  refine ⟨l2', ?_⟩
  refine (meets_clone_waits (r.le l2').cw).mono ?_
  rintro _ _ ⟨b3, O3, rfl, n3, rfl, m3⟩
  try simp only [xNn_some, add_mk, cell_mk, upd_at, del_at, if_true, if_false, Option.bind_some, List.getElem?_toArray, List.getElem?_cons_succ, List.getElem?_cons_zero, oI_some, oS_some, oM_some, oB_some, oP_some, oT_some, xIdx_some, Nat.zero_add, Nat.add_zero, Nat.mul_one]
  have l3 : h2.le _ := PH.le_upd (O := O3) n3
  have k3 := PH.upd_same h2 b3 O3
  generalize h2.upd b3 O3 = h3 at l3 k3 m3 ⊢
  have l3' := PH.le_trans l2' l3
  refine ⟨l3', ?_⟩
  refine (meets_clone_left (r.le l3').cl).mono ?_
  rintro _ _ ⟨b4, O4, rfl, n4, rfl, m4⟩
  try simp only [xNn_some, add_mk, cell_mk, upd_at, del_at, if_true, if_false, Option.bind_some, List.getElem?_toArray, List.getElem?_cons_succ, List.getElem?_cons_zero, oI_some, oS_some, oM_some, oB_some, oP_some, oT_some, xIdx_some, Nat.zero_add, Nat.add_zero, Nat.mul_one]
  have l4 : h3.le _ := PH.le_upd (O := O4) n4
  have k4 := PH.upd_same h3 b4 O4
  generalize h3.upd b4 O4 = h4 at l4 k4 m4 ⊢
  have l4' := PH.le_trans l3' l4
  refine ⟨l4', ?_⟩
  intro b0 n0
  have lz : h4.le _ := PH.le_upd (O := .cells #[.int .i64 s.most, .slice (some ⟨b1, 0, none⟩) s.mons.length cap1, .slice (some ⟨b2, 0, none⟩) s.flags.length cap2, .map (some b3), .map (some b4)] 45 (0, 0)) n0
  have kz := PH.upd_same h4 b0 (.cells #[.int .i64 s.most, .slice (some ⟨b1, 0, none⟩) s.mons.length cap1, .slice (some ⟨b2, 0, none⟩) s.flags.length cap2, .map (some b3), .map (some b4)] 45 (0, 0))
  generalize h4.upd b0 (.cells #[.int .i64 s.most, .slice (some ⟨b1, 0, none⟩) s.mons.length cap1, .slice (some ⟨b2, 0, none⟩) s.flags.length cap2, .map (some b3), .map (some b4)] 45 (0, 0)) = h5 at lz kz ⊢
  refine ⟨PH.le_trans l4' lz, ⟨b0, b1, b2, b3, b4⟩, rfl, ?_, PH.le_trans l4' lz, ?_⟩
  · have d12 : b1 ≠ b2 := ne_of_known k1 n2
    have d13 : b1 ≠ b3 := ne_of_known (l2 _ _ k1) n3
    have d14 : b1 ≠ b4 := ne_of_known (l3 _ _ (l2 _ _ k1)) n4
    have d10 : b1 ≠ b0 := ne_of_known (l4 _ _ (l3 _ _ (l2 _ _ k1))) n0
    have d23 : b2 ≠ b3 := ne_of_known k2 n3
    have d24 : b2 ≠ b4 := ne_of_known (l3 _ _ k2) n4
    have d20 : b2 ≠ b0 := ne_of_known (l4 _ _ (l3 _ _ k2)) n0
    have d34 : b3 ≠ b4 := ne_of_known k3 n4
    have d30 : b3 ≠ b0 := ne_of_known (l4 _ _ k3) n0
    have d40 : b4 ≠ b0 := ne_of_known k4 n0
    refine ⟨?_, r.nm, r.nf, ⟨cap1, cap2, kz⟩, ⟨j1, lz _ _ (l4 _ _ (l3 _ _ (l2 _ _ k1)))⟩, ⟨j2, lz _ _ (l4 _ _ (l3 _ _ k2))⟩, ?_, ?_⟩
    · simp only [ML.all, List.nodup_cons, List.mem_cons, List.not_mem_nil, or_false, not_or, not_false_eq_true, List.nodup_nil, and_true]
      exact ⟨⟨d10.symm, d20.symm, d30.symm, d40.symm⟩, ⟨d12, d13, d14⟩, ⟨d23, d24⟩, d34⟩
    · exact m3.of ((lz _ _ (l4 _ _ k3)).trans k3.symm)
    · exact m4.of ((lz _ _ k4).trans k4.symm)
  · have none_of : ∀ {g g' : PH} {b : Nat}, g.le g' → g' b = none → g b = none := by
      intro g g' b l n
      cases hg : g b with
      | none => rfl
      | some O => rw [l _ _ hg] at n; cases n
    intro b hb
    simp only [ML.all, List.mem_cons, List.not_mem_nil, or_false] at hb
    rcases hb with rfl | rfl | rfl | rfl | rfl
    · exact none_of l4' n0
    · exact n1
    · exact none_of l1 n2
    · exact none_of l2' n3
    · exact none_of l3' n4

end Go.Md

/-
  A new model; what is asked of a model.
-/
set_option linter.unusedSimpArgs false
set_option linter.unusedVariables false
namespace Go.Md
open Go Go.Sx Go.Proofs Go.Proofs.Ytnnedfhpicdacaa

def none3 : Mo := ⟨-1, 0, 0⟩

/-- What is made of a new model, so far. -/
structure Half (h : PH) (h' : PH) (m fb wb lb : Nat) (t c : Int) (k : Nat) : Prop where
  le : h.le h'
  nm : h m = none
  nf : h fb = none
  nw : h wb = none
  nl : h lb = none
  nd : [m, fb, wb, lb].Nodup
  fl : h' fb = some (.cells (flArr (List.replicate t.toNat false) []) 4 (0, 0))
  w : h' wb = some (.map #[] 0)
  l : h' lb = some (.map #[] 0)
  mo : ∃ base cap, h' m = some (.cells #[.int .i64 c, .slice base k cap, .slice (some ⟨fb, 0, none⟩) t.toNat t.toNat, .map (some wb), .map (some lb)] 45 (0, 0)) ∧
    ((k = 0 ∧ base = none ∧ cap = 0) ∨ ∃ ob junk, base = some ⟨ob, 0, none⟩ ∧ h' ob = some (.cells (moArr (List.replicate k none3) junk) 117 (0, 0)) ∧ junk.length = (cap - k) * 3 ∧ k ≤ cap ∧ h ob = none ∧ ob ∉ [m, fb, wb, lb])

theorem moArr_app (k : Nat) (junk : List Value) : ((List.replicate k none3).map moV).flatten ++ [Value.int .i64 (-1), .int .i64 0, .int .i64 0] ++ junk = ((List.replicate (k + 1) none3).map moV).flatten ++ junk := by
  congr 1
  rw [List.replicate_succ', List.map_append, List.flatten_append]
  rfl
theorem mo_len (k : Nat) : (((List.replicate k none3).map moV).flatten).length = k * 3 := by
  have := moArr_size (l := List.replicate k none3) (junk := [])
  simpa [moArr] using this

def inRange (n a b : Int) : Bool := decide (a ≤ n) && decide (n ≤ b)
/-- What New answers. -/
def newOk (t o c : Int) : Bool := inRange t 1 8 && (inRange o 1 8 && inRange c 1 60)

theorem meets_New_no {h : PH} (t o c : Int) (hn : newOk t o c = false) : Meets Try.prog 11 #[.int .i64 t, .int .i64 o, .int .i64 c] h fun v h' => v = .tuple #[.pointer none, .int .i64 1] ∧ h' = h := by
  apply P_model_New_of
  unfold P_model_New
  refine (meets_in _ _ _).look ?_
  try simp only [xNn_some, add_mk, cell_mk, upd_at, del_at, if_true, if_false, Option.bind_some, List.getElem?_toArray, List.getElem?_cons_succ, List.getElem?_cons_zero, oI_some, oS_some, oM_some, oB_some, oP_some, oT_some, xIdx_some, Nat.zero_add, Nat.add_zero, Nat.mul_one]
  refine xSc_or (!(decide (1 ≤ o) && decide (o ≤ 8))) (fun _ J hJ => ?_) ?_
  · refine (meets_in _ _ _).look ?_
    try simp only [xNn_some, add_mk, cell_mk, upd_at, del_at, if_true, if_false, Option.bind_some, List.getElem?_toArray, List.getElem?_cons_succ, List.getElem?_cons_zero, oI_some, oS_some, oM_some, oB_some, oP_some, oT_some, xIdx_some, Nat.zero_add, Nat.add_zero, Nat.mul_one]
    exact hJ
  refine xSc_or (!(decide (1 ≤ c) && decide (c ≤ 60))) (fun _ J hJ => ?_) ?_
  · refine (meets_in _ _ _).look ?_
    try simp only [xNn_some, add_mk, cell_mk, upd_at, del_at, if_true, if_false, Option.bind_some, List.getElem?_toArray, List.getElem?_cons_succ, List.getElem?_cons_zero, oI_some, oS_some, oM_some, oB_some, oP_some, oT_some, xIdx_some, Nat.zero_add, Nat.add_zero, Nat.mul_one]
    exact hJ
  refine ⟨fun _ => ⟨trivial, rfl⟩, fun hx => ?_⟩
  exfalso
  revert hn
  simp only [newOk, inRange]
  revert hx
  generalize (decide (1 ≤ t) && decide (t ≤ 8)) = x
  generalize (decide (1 ≤ o) && decide (o ≤ 8)) = y
  generalize (decide (1 ≤ c) && decide (c ≤ 60)) = z
  cases x <;> cases y <;> cases z <;> simp

theorem meets_New {h : PH} (t o c : Int) (hn : newOk t o c = true) : Meets Try.prog 11 #[.int .i64 t, .int .i64 o, .int .i64 c] h fun v h' => ∃ w, v = .tuple #[w, .int .i64 0] ∧ Fresh h h' w (Ms.new t o c) := by
  have hr : (1 ≤ t ∧ t ≤ 8) ∧ (1 ≤ o ∧ o ≤ 8) ∧ (1 ≤ c ∧ c ≤ 60) := by simpa [newOk, inRange] using hn
  obtain ⟨⟨t1, t2⟩, ⟨o1, o2⟩, c1, c2⟩ := hr
  apply P_model_New_of
  unfold P_model_New
  refine (meets_in _ _ _).look ?_
  try simp only [xNn_some, add_mk, cell_mk, upd_at, del_at, if_true, if_false, Option.bind_some, List.getElem?_toArray, List.getElem?_cons_succ, List.getElem?_cons_zero, oI_some, oS_some, oM_some, oB_some, oP_some, oT_some, xIdx_some, Nat.zero_add, Nat.add_zero, Nat.mul_one]
  refine xSc_or (!(decide (1 ≤ o) && decide (o ≤ 8))) (fun _ J hJ => ?_) ?_
  · refine (meets_in _ _ _).look ?_
    try simp only [xNn_some, add_mk, cell_mk, upd_at, del_at, if_true, if_false, Option.bind_some, List.getElem?_toArray, List.getElem?_cons_succ, List.getElem?_cons_zero, oI_some, oS_some, oM_some, oB_some, oP_some, oT_some, xIdx_some, Nat.zero_add, Nat.add_zero, Nat.mul_one]
    exact hJ
  refine xSc_or (!(decide (1 ≤ c) && decide (c ≤ 60))) (fun _ J hJ => ?_) ?_
  · refine (meets_in _ _ _).look ?_
    try simp only [xNn_some, add_mk, cell_mk, upd_at, del_at, if_true, if_false, Option.bind_some, List.getElem?_toArray, List.getElem?_cons_succ, List.getElem?_cons_zero, oI_some, oS_some, oM_some, oB_some, oP_some, oT_some, xIdx_some, Nat.zero_add, Nat.add_zero, Nat.mul_one]
    exact hJ
  refine ⟨fun hx => ?_, fun _ => ?_⟩
  · simp [t1, t2, o1, o2, c1, c2] at hx
  refine ⟨by omega, by omega, by omega, by omega, ?_⟩
  intro fb nfb
  intro wb nwb
  obtain ⟨d1, nwb⟩ := upd_none nwb
  intro lb nlb
  obtain ⟨d2, nlb⟩ := upd_none nlb
  obtain ⟨d3, nlb⟩ := upd_none nlb
  intro m nm
  obtain ⟨d4, nm⟩ := upd_none nm
  obtain ⟨d5, nm⟩ := upd_none nm
  obtain ⟨d6, nm⟩ := upd_none nm
  have start : Half h ((((h.upd fb (.cells (List.replicate t.toNat [Value.bool false]).flatten.toArray 4 (0, 0))).upd wb (.map #[] 0)).upd lb (.map #[] 0)).upd m (.cells #[.int .i64 c, .slice none 0 0, .slice (some ⟨fb, 0, none⟩) t.toNat t.toNat, .map (some wb), .map (some lb)] 45 (0, 0))) m fb wb lb t c 0 := by
    refine ⟨?_, nm, nfb, nwb, nlb, ?_, ?_, ?_, ?_, none, 0, PH.upd_same _ _ _, .inl ⟨rfl, rfl, rfl⟩⟩
    · exact upd_le_upd nm (upd_le_upd nlb (upd_le_upd nwb (upd_le_upd nfb (PH.le_refl h))))
    · simp only [List.nodup_cons, List.mem_cons, List.not_mem_nil, or_false, not_or, not_false_eq_true, List.nodup_nil, and_true]
      exact ⟨⟨d6.symm, d5.symm, d4.symm⟩, ⟨d1, d3⟩, d2⟩
    · simp only [upd_at, d6, d3, d1, if_true, if_false]
      congr 2
      simp only [flArr, List.append_nil, List.map_replicate]
      congr 1
      generalize t.toNat = n
      induction n with
      | zero => rfl
      | succ n ih => simp only [List.replicate_succ, List.flatten_cons, ih]; rfl
    · simp only [upd_at, d5, d2, if_true, if_false]
    · simp only [upd_at, d4, if_true, if_false]
  generalize ((((h.upd fb (.cells (List.replicate t.toNat [Value.bool false]).flatten.toArray 4 (0, 0))).upd wb (.map #[] 0)).upd lb (.map #[] 0)).upd m (.cells #[.int .i64 c, .slice none 0 0, .slice (some ⟨fb, 0, none⟩) t.toNat t.toNat, .map (some wb), .map (some lb)] 45 (0, 0))) = h1 at start ⊢
  clear d1 d2 d3 d4 d5 d6 nm nlb nwb nfb
  refine xLoop1 (fun (x : Int) h' => ∃ k : Nat, x = k ∧ (k : Int) ≤ o ∧ Half h h' m fb wb lb t c k) (fun (x : Int) _ => (o - x).toNat) ?_ ⟨0, rfl, by omega, start⟩
  clear start h1
  rintro J x h1 ⟨k, rfl, hk, H⟩ hJ
  refine ⟨fun hc => ?_, fun hc => ?_⟩
  · have hc := of_decide_eq_true hc
    obtain ⟨le, nm, nf, nw, nl, nd, fl, w, l, base, cap, hm, hb⟩ := H
    have hnd := nd
    simp only [List.nodup_cons, List.mem_cons, List.not_mem_nil, or_false, not_or, not_false_eq_true, List.nodup_nil, and_true] at hnd
    obtain ⟨⟨q1, q2, q3⟩, ⟨q4, q5⟩, q6⟩ := hnd
    have hwr : IntKind.wrap .i64 ((k : Int) + 1) = ((k + 1 : Nat) : Int) := by rw [wrap64_id (by omega) (by omega)]; simp
    have hfit : (2 * (k + 1) + 192) * 24 ≤ 2 ^ 48 := by omega
    have hk1 : ((k + 1 : Nat) : Int) ≤ o := by omega
    have hmu : (o - ((k + 1 : Nat) : Int)).toNat < (o - (k : Int)).toNat := by omega
    simp only [xNn_some, add_mk, cell_mk, upd_at, del_at, if_true, if_false, Option.bind_some, List.getElem?_toArray, List.getElem?_cons_succ, List.getElem?_cons_zero, oI_some, oS_some, oM_some, oB_some, oP_some, oT_some, xIdx_some, Nat.zero_add, Nat.add_zero, Nat.mul_one, xBlk, hm]
    intro b n
    have e1 : m ≠ b := ne_of_known hm n
    have e2 : fb ≠ b := ne_of_known fl n
    have e3 : wb ≠ b := ne_of_known w n
    have e4 : lb ≠ b := ne_of_known l n
    have hnb : h b = none := by
      cases hg : h b with
      | none => rfl
      | some O => rw [le _ _ hg] at n; cases n
    have fin : ∀ (h2 : PH) (ob cap' : Nat) (junk : List Value), h.le h2 → h2 m = h1 m → h2 fb = h1 fb → h2 wb = h1 wb → h2 lb = h1 lb → h ob = none → ob ∉ [m, fb, wb, lb] → h2 ob = some (.cells (moArr (List.replicate (k + 1) none3) junk) 117 (0, 0)) → junk.length = (cap' - (k + 1)) * 3 → k + 1 ≤ cap' →
        xSt 1 h2 ⟨m, 1, none⟩ [.slice (some ⟨ob, 0, none⟩) (k + 1) cap'] (fun h' => J (IntKind.wrap .i64 ((k : Int) + 1)) h') := by
      intro h2 ob cap' junk l2 f1 f2 f3 f4 hob hoo hoc hj hcap
      refine xSt_mk (f1.trans hm) rfl (by decide) (by simp [oneCell]) (by simp) ?_
      rw [hwr]
      have ho := hoo
      simp only [List.mem_cons, List.not_mem_nil, or_false, not_or] at ho
      refine hJ _ _ ⟨k + 1, rfl, hk1, ?_⟩ hmu
      refine ⟨upd_le_upd nm l2, nm, nf, nw, nl, nd, ?_, ?_, ?_, some ⟨ob, 0, none⟩, cap', PH.upd_same _ _ _, .inr ⟨ob, junk, rfl, ?_, hj, hcap, hob, hoo⟩⟩
      · rw [PH.upd_ne _ _ (Ne.symm q1)]; exact f2.trans fl
      · rw [PH.upd_ne _ _ (Ne.symm q2)]; exact f3.trans w
      · rw [PH.upd_ne _ _ (Ne.symm q3)]; exact f4.trans l
      · rw [PH.upd_ne _ _ ho.1]; exact hoc
    have src : srcCells (h1.upd b (.cells #[.int .i64 (-1), .int .i64 0, .int .i64 0] 117 (0, 0))) 3 (.slice (some ⟨b, 0, none⟩) 1 1) [.int .i64 (-1), .int .i64 0, .int .i64 0] 1 := by
      refine ⟨rfl, rfl, fun i hi => ?_⟩
      simp only [add_mk, cell_mk, upd_at, if_true, Option.bind_some, Nat.zero_add, List.getElem?_toArray]
    have notin : ∀ x, m ≠ x → fb ≠ x → wb ≠ x → lb ≠ x → x ∉ [m, fb, wb, lb] := by
      intro x a b c d
      simp only [List.mem_cons, List.not_mem_nil, or_false, not_or]
      exact ⟨a.symm, b.symm, c.symm, d.symm⟩
    refine ⟨_, 1, src, by simp [oneCell], hfit, ?_⟩
    rcases hb with ⟨rfl, rfl, rfl⟩ | ⟨ob, junk, rfl, hob, hj, hcap, nob, hoo⟩
    · refine ⟨rfl, rfl, fun hx => (by cases hx), fun _ ob cap' junk nb hc' hj => ?_⟩
      obtain ⟨g, nb⟩ := upd_none nb
      have g1 : m ≠ ob := ne_of_known hm nb
      have g2 : fb ≠ ob := ne_of_known fl nb
      have g3 : wb ≠ ob := ne_of_known w nb
      have g4 : lb ≠ ob := ne_of_known l nb
      have hno : h ob = none := by
        cases hg : h ob with
        | none => rfl
        | some O => rw [le _ _ hg] at nb; cases nb
      try simp only [xNn_some, add_mk, cell_mk, upd_at, del_at, if_true, if_false, Option.bind_some, List.getElem?_toArray, List.getElem?_cons_succ, List.getElem?_cons_zero, oI_some, oS_some, oM_some, oB_some, oP_some, oT_some, xIdx_some, Nat.zero_add, Nat.add_zero, Nat.mul_one]
      refine fin _ ob cap' junk (upd_le_upd hno (upd_le_upd hnb le)) ?_ ?_ ?_ ?_ hno (notin ob g1 g2 g3 g4) ?_ hj hc'
      · simp only [upd_at, g1, e1, if_false]
      · simp only [upd_at, g2, e2, if_false]
      · simp only [upd_at, g3, e3, if_false]
      · simp only [upd_at, g4, e4, if_false]
      · rw [PH.upd_same]
        congr 2
    · have ho := hoo
      simp only [List.mem_cons, List.not_mem_nil, or_false, not_or] at ho
      have gob : ob ≠ b := ne_of_known hob n
      refine ⟨((List.replicate k none3).map moV).flatten, junk, rfl, ?_, mo_len k, hj, hcap, fun ob' cap' junk' nb hc' hj' => ?_⟩
      · rw [PH.upd_ne _ _ gob]; exact hob
      · have sm : ∀ x, x ≠ ob → (((h1.upd b (.cells #[.int .i64 (-1), .int .i64 0, .int .i64 0] 117 (0, 0))).del ob) x = none → x ≠ b ∧ h1 x = none) := by
          intro x hx hn
          rw [del_at, if_neg hx] at hn
          have := upd_none hn
          exact ⟨this.1.symm, this.2⟩
        have key : ob' = ob ∨ (ob' ≠ ob ∧ ob' ≠ b ∧ h1 ob' = none) := by
          by_cases hx : ob' = ob
          · exact .inl hx
          · exact .inr ⟨hx, sm _ hx nb⟩
        have g : m ≠ ob' ∧ fb ≠ ob' ∧ wb ≠ ob' ∧ lb ≠ ob' ∧ h ob' = none := by
          rcases key with rfl | ⟨_, _, hx⟩
          · exact ⟨fun e => ho.1 e.symm, fun e => ho.2.1 e.symm, fun e => ho.2.2.1 e.symm, fun e => ho.2.2.2 e.symm, nob⟩
          · refine ⟨ne_of_known hm hx, ne_of_known fl hx, ne_of_known w hx, ne_of_known l hx, ?_⟩
            cases hg : h ob' with
            | none => rfl
            | some O => rw [le _ _ hg] at hx; cases hx
        obtain ⟨g1, g2, g3, g4, hno⟩ := g
        have ledel : h.le ((h1.upd b (.cells #[.int .i64 (-1), .int .i64 0, .int .i64 0] 117 (0, 0))).del ob) := by
          intro x O hx
          have x1 : x ≠ ob := ne_of_known hx nob
          rw [del_at, if_neg x1]
          exact upd_le_upd hnb le _ _ hx
        try simp only [xNn_some, add_mk, cell_mk, upd_at, del_at, if_true, if_false, Option.bind_some, List.getElem?_toArray, List.getElem?_cons_succ, List.getElem?_cons_zero, oI_some, oS_some, oM_some, oB_some, oP_some, oT_some, xIdx_some, Nat.zero_add, Nat.add_zero, Nat.mul_one]
        refine fin _ ob' cap' junk' (upd_le_upd hno ledel) ?_ ?_ ?_ ?_ hno (notin ob' g1 g2 g3 g4) ?_ hj' hc'
        · simp only [upd_at, del_at, g1, e1, Ne.symm ho.1, if_false]
        · simp only [upd_at, del_at, g2, e2, Ne.symm ho.2.1, if_false]
        · simp only [upd_at, del_at, g3, e3, Ne.symm ho.2.2.1, if_false]
        · simp only [upd_at, del_at, g4, e4, Ne.symm ho.2.2.2, if_false]
        · rw [PH.upd_same]
          unfold moArr
          rw [moArr_app]
  · have hc := of_decide_eq_false hc
    have hko : k = o.toNat := by omega
    subst hko
    obtain ⟨le, nm, nf, nw, nl, nd, fl, w, l, base, cap, hm, hb⟩ := H
    rcases hb with ⟨hz, _⟩ | ⟨ob, junk, rfl, hob, hj, hcap, nob, hoo⟩
    · omega
    · simp only [List.mem_cons, List.not_mem_nil, or_false, not_or] at hoo
      have hnd := nd
      simp only [List.nodup_cons, List.mem_cons, List.not_mem_nil, or_false, not_or, not_false_eq_true, List.nodup_nil, and_true] at hnd
      obtain ⟨⟨q1, q2, q3⟩, ⟨q4, q5⟩, q6⟩ := hnd
      have n8 : o.toNat ≤ 8 := by omega
      have t8 : t.toNat ≤ 8 := by omega
      refine ⟨_, rfl, ⟨m, ob, fb, wb, lb⟩, rfl, ?_, le, ?_⟩
      · refine ⟨?_, by simpa [Ms.new] using n8, by simpa [Ms.new] using t8, ⟨cap, t.toNat, ?_⟩, ⟨junk, hob⟩, ⟨[], fl⟩, ⟨#[], 0, w, by simp [Ents, Ms.new], by simp, by simp⟩, ⟨#[], 0, l, by simp [Ents, Ms.new], by simp, by simp⟩⟩
        · simp only [ML.all, List.nodup_cons, List.mem_cons, List.not_mem_nil, or_false, not_or, not_false_eq_true, List.nodup_nil, and_true]
          exact ⟨⟨fun e => hoo.1 e.symm, q1, q2, q3⟩, ⟨hoo.2.1, hoo.2.2.1, hoo.2.2.2⟩, ⟨q4, q5⟩, q6⟩
        · simpa [Ms.new] using hm
      · intro b hb
        simp only [ML.all, List.mem_cons, List.not_mem_nil, or_false] at hb
        rcases hb with rfl | rfl | rfl | rfl | rfl
        · exact nm
        · exact nob
        · exact nf
        · exact nw
        · exact nl

end Go.Md

/-
  The document's model goes with the program's: a transition, and the new one.
-/
set_option linter.unusedSimpArgs false
set_option linter.unusedVariables false
namespace Go.Rf
open Go Go.Md Go.Sx Go.Proofs

section
variable {R : Rm} {s : Ms} {e : Ev}

theorem goes_wait (S : Sim R s) (ho : s.isObj e.obj = true) (ht : s.isThread e.thread = true) (hk : e.kind = 4 ∨ e.kind = 5 ∨ e.kind = 6) (ng : e.kind = 4 → s.gone e.thread = false) :
    Goes ((R.wait e).1, (R.wait e).2 && e.arg == 0) (s.apply e) := by
  have key : Goes (R.wait e) (if e.kind = 4 then s.begin e else if e.kind = 5 then (if (e.err == 13 || e.err == 12 && s.flag e.thread) = true then s.leave e.obj e.thread e.err else none) else s.fin e) := by
    rcases hk with hk | hk | hk
    · rw [if_pos hk]; exact goes_begin S ho ht hk (ng hk)
    · have n4 : ¬e.kind = 4 := by omega
      rw [if_neg n4, if_pos hk]
      unfold Rm.wait
      rw [if_neg n4, if_pos hk, S.fl _ ht]
      by_cases h : e.err = 13 ∨ e.err = 12
      · rw [if_pos h]
        have gl := goes_leave S (w := e.err) ho ht (by omega)
        have e1 : ((R.at' e.obj e.thread).waits == 0) = decide ((R.at' e.obj e.thread).waits = 0) := by rw [Bool.eq_iff_iff]; simp
        rcases h with h | h
        · have h12 : (e.err == 12) = false := by simp [h]
          have h13 : (e.err == 13) = true := by simp [h]
          simp only [h12, h13, Bool.false_and, Bool.or_false, e1, decide_eq_true_eq, if_true]
          exact gl
        · have h12 : (e.err == 12) = true := by simp [h]
          have h13 : (e.err == 13) = false := by simp [h]
          cases hfl : s.flag e.thread with
          | true =>
            simp only [h12, h13, Bool.false_or, Bool.true_and, Bool.not_true, Bool.or_false, e1, decide_eq_true_eq, if_true]
            exact gl
          | false =>
            simp only [h12, h13, Bool.false_or, Bool.true_and, Bool.not_false, Bool.or_true, if_true, Bool.false_eq_true, if_false]
            exact .no rfl rfl
      · rw [if_neg h]
        have h12 : (e.err == 12) = false := by simp; omega
        have h13 : (e.err == 13) = false := by simp; omega
        simp only [h12, h13, Bool.false_or, Bool.false_and, Bool.false_eq_true, if_false]
        exact .no rfl rfl
    · have n4 : ¬e.kind = 4 := by omega
      have n5 : ¬e.kind = 5 := by omega
      rw [if_neg n4, if_neg n5]; exact goes_end S ho ht hk
  have ap : s.apply e = if (e.arg == 0) = true then (if e.kind = 4 then s.begin e else if e.kind = 5 then (if (e.err == 13 || e.err == 12 && s.flag e.thread) = true then s.leave e.obj e.thread e.err else none) else s.fin e) else none := by
    unfold Ms.apply
    rw [if_neg (show ¬(e.kind = 1 ∨ e.kind = 2) by omega), if_neg (show ¬e.kind = 3 by omega)]
    rcases hk with hk | hk | hk
    · rw [if_pos hk, if_pos hk]
      by_cases ha : e.arg = 0
      · rw [if_pos ha, if_pos (by simp [ha])]
      · rw [if_neg ha, if_neg (by simp [ha])]
    · have n4 : ¬e.kind = 4 := by omega
      rw [if_neg n4, if_pos hk, if_neg n4, if_pos hk]
      by_cases ha : e.arg = 0
      · have : (e.arg == 0) = true := by simp [ha]
        rw [this, Bool.true_and, if_pos rfl]
      · have : (e.arg == 0) = false := by simp [ha]
        rw [this, Bool.false_and, if_neg (by simp), if_neg (by simp)]
    · have n4 : ¬e.kind = 4 := by omega
      have n5 : ¬e.kind = 5 := by omega
      rw [if_neg n4, if_neg n5, if_pos hk, if_neg n4, if_neg n5]
      by_cases ha : e.arg = 0
      · rw [if_pos ha, if_pos (by simp [ha])]
      · rw [if_neg ha, if_neg (by simp [ha])]
  rw [ap]
  exact key.and _

theorem wait_rng (h : (R.wait e).2 = true) : 0 ≤ e.err ∧ e.err < 100 := by
  by_cases k : e.err = 0 ∨ e.err = 9 ∨ e.err = 11 ∨ e.err = 12 ∨ e.err = 13
  · omega
  · exfalso
    unfold Rm.wait at h
    rw [if_neg (show ¬e.err = 9 by omega), if_neg (show ¬e.err = 12 by omega), if_neg (show ¬e.err = 11 by omega), if_neg (show ¬e.err = 0 by omega), if_neg (show ¬(e.err = 13 ∨ e.err = 12) by omega), if_neg (show ¬(e.err = 0 ∨ e.err = 13 ∨ e.err = 12) by omega)] at h
    by_cases k4 : e.kind = 4
    · rw [if_pos k4] at h; cases h
    rw [if_neg k4] at h
    by_cases k5 : e.kind = 5
    · rw [if_pos k5] at h; cases h
    rw [if_neg k5] at h
    by_cases k6 : e.kind = 6
    · rw [if_pos k6] at h; cases h
    rw [if_neg k6] at h
    cases h

theorem goes_act (S : Sim R s) (hm : s.may e = true) : Goes (R.act e) (s.apply e) := by
  have hm' := hm
  unfold Ms.may at hm'
  simp only [Bool.and_eq_true, Bool.or_eq_true, beq_iff_eq, Bool.not_eq_true'] at hm'
  obtain ⟨⟨ht, ho⟩, hg⟩ := hm'
  by_cases k12 : e.kind = 1 ∨ e.kind = 2
  · have a1 : R.act e = ((R.enter e).1, (R.enter e).2 && e.arg == 0) := by unfold Rm.act; rw [if_pos k12]
    have a2 : s.apply e = if (e.arg == 0) = true then s.enter e else none := by
      unfold Ms.apply; rw [if_pos k12]
      by_cases ha : e.arg = 0
      · rw [if_pos ha, if_pos (by simp [ha])]
      · rw [if_neg ha, if_neg (by simp [ha])]
    rw [a1, a2]
    exact (goes_enter S ho ht).and _
  by_cases k3 : e.kind = 3
  · have a2 : s.apply e = if e.arg = 0 then s.exit e else none := by unfold Ms.apply; rw [if_neg k12, if_pos k3]
    rw [a2]
    exact goes_exit S ho ht k3
  by_cases k4 : e.kind = 4 ∨ e.kind = 5 ∨ e.kind = 6
  · have g := goes_wait S ho ht k4 (fun h => by
      rcases hg with (hg | hg) | hg
      · omega
      · omega
      · exact hg)
    have a1 : R.act e = if (decide (e.err ≥ 0) && decide (e.err < 100)) = true then ((R.wait e).1, (R.wait e).2 && e.arg == 0) else (R, false) := by unfold Rm.act; rw [if_neg k12, if_neg k3, if_pos k4]
    rw [a1]
    by_cases hr : (decide (e.err ≥ 0) && decide (e.err < 100)) = true
    · rw [if_pos hr]; exact g
    · rw [if_neg hr]
      have hw : (R.wait e).2 = false := by
        cases hw : (R.wait e).2 with
        | false => rfl
        | true =>
          have := wait_rng hw
          exact absurd (by simp; omega) hr
      rcases g with ⟨s', h1, h2, _⟩ | ⟨h1, h2⟩
      · simp [hw] at h2
      · exact .no h1 rfl
  by_cases k7 : e.kind = 7 ∨ e.kind = 8 ∨ e.kind = 9
  · have a1 : R.act e = R.tell e := by unfold Rm.act; rw [if_neg k12, if_neg k3, if_neg k4, if_pos k7]
    have a2 : s.apply e = s.tell e := by unfold Ms.apply; rw [if_neg k12, if_neg k3, if_neg (by omega), if_neg (by omega), if_neg (by omega), if_pos k7]
    rw [a1, a2]
    exact goes_tell S ho ht k7
  by_cases k10 : e.kind = 10 ∨ e.kind = 11 ∨ e.kind = 12
  · have a1 : R.act e = R.ask e := by unfold Rm.act; rw [if_neg k12, if_neg k3, if_neg k4, if_neg k7, if_pos k10]
    have g := goes_ask S ho ht k10
    have a2 : s.apply e = (if e.kind = 10 then s.hash e else if e.kind = 11 then s.holds e else if (e.err != 0 || !s.isThread e.arg) = true then none else some (s.setFlag e.arg true)) := by
      unfold Ms.apply; rw [if_neg k12, if_neg k3, if_neg (show ¬e.kind = 4 by omega), if_neg (show ¬e.kind = 5 by omega), if_neg (show ¬e.kind = 6 by omega), if_neg k7]
      by_cases k : e.kind = 10
      · rw [if_pos k, if_pos k]
      rw [if_neg k, if_neg k]
      by_cases k' : e.kind = 11
      · rw [if_pos k', if_pos k']
      rw [if_neg k', if_neg k', if_pos (by omega)]
    rw [a1, a2]
    exact g
  · have a1 : R.act e = (R, false) := by unfold Rm.act; rw [if_neg k12, if_neg k3, if_neg k4, if_neg k7, if_neg k10]
    have a2 : s.apply e = none := by unfold Ms.apply; rw [if_neg k12, if_neg k3, if_neg (by omega), if_neg (by omega), if_neg (by omega), if_neg k7, if_neg (by omega), if_neg (by omega), if_neg (by omega)]
    rw [a1, a2]
    exact .no rfl rfl

theorem sim_apply (S : Sim R s) (e : Ev) : (R.apply e).2 = s.code e ∧ Sim (R.apply e).1 (s.next e) := by
  unfold Rm.apply Ms.next Ms.code Ms.step
  rw [may_eq S]
  cases hm : s.may e with
  | false => simp; exact S
  | true =>
    simp only [Bool.not_true, Bool.false_or, if_true]
    rcases goes_act S hm with ⟨s', h1, h2, h3⟩ | ⟨h1, h2⟩
    · simp [h1, h2]; exact h3
    · simp [h1, h2]; exact S

end

theorem getD_rep {α : Type} (n i : Nat) (x : α) : (List.replicate n x).getD i x = x := by
  rw [List.getD_eq_getElem?_getD, List.getElem?_replicate]
  split <;> rfl

theorem sim_new {t o m : Int} (ok : newOk t o m = true) : Sim (Rm.new t o m) (Ms.new t o m) := by
  have hr : (1 ≤ t ∧ t ≤ 8) ∧ (1 ≤ o ∧ o ≤ 8) ∧ (1 ≤ m ∧ m ≤ 60) := by simpa [newOk, inRange] using ok
  have mon0 : ∀ x, (Ms.new t o m).mon x = ⟨-1, 0, 0⟩ := fun x => getD_rep _ _ _
  refine ⟨⟨by simp [Rm.new], by simp [Rm.new], by simp [Rm.new], by simp [Rm.new], by simp [Rm.new]⟩, new_ok t o m (by omega) (by omega), ⟨hr.2.2, ?_, ?_, ?_, ?_⟩, ?_, ?_, rfl, ?_, ?_, ?_, ?_, ?_, ?_, ?_⟩
  · intro x hx
    rw [mon0]
    refine ⟨by simp, by simp [Ms.new]; omega, fun _ => rfl, fun h => absurd rfl h, .inl rfl⟩
  · intro p hp; cases hp
  · intro p hp; cases hp
  · intro a b h; rfl
  · simp [Rm.new, Ms.new]; omega
  · simp [Rm.new, Ms.new]; omega
  · intro x hx; rw [mon0]; exact getD_rep _ _ _
  · intro x hx; rw [mon0]; exact getD_rep _ _ _
  · intro x hx; rw [mon0]; exact getD_rep _ _ _
  · intro x hx; show (List.replicate _ _).getD _ _ = (List.replicate _ _).getD _ _; rw [getD_rep, getD_rep]
  · intro a b ha hb; show ((List.replicate 64 pc0).getD _ pc0).waits = _; rw [getD_rep]; rfl
  · intro a b ha hb; show ((List.replicate 64 pc0).getD _ pc0).left = _; rw [getD_rep]; rfl
  · intro a b l ha hb h; cases h

end Go.Rf

/-
  The document's model: a new one; a transition.
-/
set_option linter.unusedSimpArgs false
set_option linter.unusedVariables false
namespace Go.Rf
open Go Go.Md Go.Sx Go.Proofs Go.Proofs.Ytnnedfhpicdacaa

theorem wf_new (n m most : Int) : (Rm.new n m most).Wf := ⟨by simp [Rm.new], by simp [Rm.new], by simp [Rm.new], by simp [Rm.new], by simp [Rm.new]⟩
theorem zero_rm : zeroC Try.prog 77 = rmA (Rm.new 0 0 0) := by kernel_rfl
theorem new_rm (n m most : Int) : setN (setN (setN (rmA (Rm.new 0 0 0)) 0 [.int .i64 n]) 1 [.int .i64 m]) 2 [.int .i64 most] = rmA (Rm.new n m most) := by
  unfold rmA
  rw [setN_setW, setN_setW, setN_setW]
  rfl

theorem newOk_or (n m most : Int) : newOk n m most = !(decide (n < 1) || decide (n > 8) || decide (m < 1) || decide (m > 8) || decide (most < 1) || decide (most > 60)) := by
  unfold newOk inRange
  rw [Bool.eq_iff_iff]
  simp only [Bool.and_eq_true, decide_eq_true_eq, Bool.not_eq_true', Bool.or_eq_false_iff, decide_eq_false_iff_not]
  omega

theorem meets_new' {h : PH} (n m most : Int) : Meets Try.prog 33 #[.int .i64 n, .int .i64 m, .int .i64 most] h fun v h' => v = (if newOk n m most = true then .tuple #[.agg (rmA (Rm.new n m most)), .int .i64 0] else .tuple #[.agg (rmA (Rm.new 0 0 0)), .int .i64 1]) ∧ h' = h := by
  apply Meets.same
  apply P_ref14_New_of
  unfold P_ref14_New
  refine xNew_intro fun b h1 l1 nb e1 => ?_
  rw [zero_rm] at e1 ⊢
  have z8 := rmA_size (wf_new 0 0 0)
  refine xSc_or (decide (n > 8)) (fun _ J hJ => hJ) ?_
  refine xSc_or (decide (m < 1)) (fun _ J hJ => hJ) ?_
  refine xSc_or (decide (m > 8)) (fun _ J hJ => hJ) ?_
  refine xSc_or (decide (most < 1)) (fun _ J hJ => hJ) ?_
  refine xSc_or (decide (most > 60)) (fun _ J hJ => hJ) ?_
  rw [newOk_or]
  refine ⟨fun hc => ?_, fun hc => ?_⟩
  · rw [hc]
    refine xSt_all e1 z8 z8 (by decide) (one_rm _) ?_
    rw [oBig_eq (PH.upd_same _ _ _) z8]
    exact ⟨rfl, upd_le_upd nb l1⟩
  · rw [hc, new_rm]
    have z8' := rmA_size (wf_new n m most)
    refine xSt_all e1 z8 z8' (by decide) (one_rm _) ?_
    rw [oBig_eq (PH.upd_same _ _ _) z8']
    exact ⟨rfl, upd_le_upd nb l1⟩

/-! ### The model's tables keep their lengths -/
section
variable {R : Rm} (w : R.Wf) (e : Ev)
include w
theorem wf_enter : (R.enter e).1.Wf := by
  unfold Rm.enter
  split
  · split
    · exact w
    · exact (w.setOw _ _).setCt _ _
  · split
    · exact w
    split
    · exact w
    split <;> exact w
theorem wf_wait : (R.wait e).1.Wf := by
  unfold Rm.wait
  split
  · split
    · exact w
    split
    · split
      · exact w.setFl _ _
      · exact w
    split
    · exact w
    split
    · split
      · exact ((w.setAt _ _ _).setOw _ _).setCt _ _
      · exact w
    · exact w
  split
  · split
    · split
      · exact w
      · exact w.setAt _ _ _
    · exact w
  split
  · split
    · split
      · exact w
      · simp only []
        split
        · exact (((w.setAt _ _ _).setOw _ _).setCt _ _).setFl _ _
        · exact ((w.setAt _ _ _).setOw _ _).setCt _ _
    · exact w
  · exact w
theorem wf_tell : (R.tell e).1.Wf := by
  unfold Rm.tell
  split
  · split
    · exact w
    · exact w.setAt _ _ _
  split
  · exact w
  split
  · exact w
  split
  · exact w
  split <;> exact w
theorem wf_ask : (R.ask e).1.Wf := by
  unfold Rm.ask
  split
  · exact w
  split
  · exact w
  split
  · simp only []
    split
    · exact w.setHs _ _
    · exact w
  split
  · exact w
  split
  · exact w.setFl _ _
  · exact w
end

/-- A run of Apply: the model, the transition, the answer's place; and a second model. -/
structure Gx (h0 : PH) (b2 b3 b4 b6 : Nat) (R R' : Rm) (e : Ev) (h : PH) : Prop where
  f : Fx h0 b2 b3 b4 R e h
  x : Mx R' h b6
  d2 : b6 ≠ b2
  d3 : b6 ≠ b3
  d4 : b6 ≠ b4
  n : h0 b6 = none
section
variable {h0 h : PH} {b2 b3 b4 b6 : Nat} {R R' : Rm} {e : Ev} (g : Gx h0 b2 b3 b4 b6 R R' e h)
include g
theorem Gx.turn {R'' : Rm} (w : R''.Wf) : Gx h0 b2 b3 b4 b6 R R'' e (h.upd b6 (.cells (rmA R'') 77 (0, 0))) := by
  obtain ⟨c, hc, ho⟩ := g.f.o
  exact ⟨⟨by rw [PH.upd_ne _ _ (Ne.symm g.d2)]; exact g.f.m, by rw [PH.upd_ne _ _ (Ne.symm g.d3)]; exact g.f.e, ⟨c, hc, by rw [PH.upd_ne _ _ (Ne.symm g.d4)]; exact ho⟩, g.f.n2, g.f.n4, g.f.d23, g.f.d24, g.f.d34, upd_le_upd g.n g.f.l, g.f.w⟩, ⟨PH.upd_same _ _ _, w⟩, g.d2, g.d3, g.d4, g.n⟩
theorem Gx.put {R'' : Rm} (w : R''.Wf) {K : PH → Prop} (k : ∀ h', Gx h0 b2 b3 b4 b6 R R'' e h' → K h') : xSt 227 h ⟨b6, 0, none⟩ (rmA R'').toList K :=
  xSt_all g.x.m (rmA_size g.x.w) (rmA_size w) (by decide) (one_rm R'') (k _ (g.turn w))
theorem Gx.sow {o v : Int} (ho : o.toNat < 8) {K : PH → Prop} (k : ∀ h', Gx h0 b2 b3 b4 b6 R (R'.setOw o v) e h' → K h') : xSt 1 h (((⟨b6, 0, none⟩ : Addr).add 3).add (o.toNat * 1)) [.int .i64 v] K := by
  rw [add_mk, add_mk, Nat.zero_add, Nat.mul_one]
  refine xSt_mk g.x.m rfl (by decide) (by simp [oneCell]) (by rw [rmA_size g.x.w]; omega) ?_
  rw [set_ow g.x.w ho]; exact k _ (g.turn (g.x.w.setOw _ _))
theorem Gx.sct {o v : Int} (ho : o.toNat < 8) {K : PH → Prop} (k : ∀ h', Gx h0 b2 b3 b4 b6 R (R'.setCt o v) e h' → K h') : xSt 1 h (((⟨b6, 0, none⟩ : Addr).add 11).add (o.toNat * 1)) [.int .i64 v] K := by
  rw [add_mk, add_mk, Nat.zero_add, Nat.mul_one]
  refine xSt_mk g.x.m rfl (by decide) (by simp [oneCell]) (by rw [rmA_size g.x.w]; omega) ?_
  rw [set_ct g.x.w ho]; exact k _ (g.turn (g.x.w.setCt _ _))
end

/-- A method that was called: what it tells lies where the second model does. -/
theorem used {r : Rm × Bool} (w : r.1.Wf) {K : Array Value → Bool → Prop} (k : K (rmA r.1) r.2) :
    oTup (res r) 2 fun cs => oIx cs[0]? fun w0 => oAgg w0 227 fun c0 => oIx cs[1]? fun w1 => oB (some w1) fun x => oAgg (.agg c0) 227 fun c1 => K c1 x := by
  unfold res
  simp only [oTup_mk, oIx_some, oAgg_mk, oB_some, List.getElem?_toArray, List.getElem?_cons_zero, List.getElem?_cons_succ]
  exact ⟨rfl, rmA_size w, rmA_size w, k⟩

def ret14 (r : Rm × Int) : Value := .tuple #[.agg (rmA r.1), .int .i64 r.2]

set_option maxHeartbeats 2000000 in
theorem meets_apply' {h : PH} {R : Rm} (w : R.Wf) (hn : R.n ≤ 8) (hm : R.m ≤ 8) (e : Ev) : Meets Try.prog 64 #[.agg (rmA R), .agg #[.int .i64 e.kind, .int .i64 e.thread, .int .i64 e.obj, .int .i64 e.arg, .int .i64 e.err]] h fun v h' => v = ret14 (R.apply e) ∧ h' = h := by
  apply Meets.same
  apply P_ref14_Apply_of
  unfold P_ref14_Apply
  refine Fx.start w fun b2 b3 b4 h1 f => ?_
  simp only [f.x.all, f.y.e1, oI_some]
  refine (meets_is w e.thread).look ?_
  simp only [oB_some]
  refine xSc_or (decide (e.obj < 0)) (fun _ J hJ => by simp only [f.y.e2, oI_some]; exact hJ) ?_
  refine xSc_or (decide (e.obj ≥ R.m)) (fun _ J hJ => by simp only [f.y.e2, f.x.m1, oI_some]; exact hJ) ?_
  refine xSc_or (e.kind != 5 && e.kind != 6 && R.gone e.thread) (fun hb J hJ => ?_) ?_
  · have hi : R.is e.thread = true := by
      simp only [Bool.or_eq_false_iff, Bool.not_eq_false'] at hb; exact hb.1.1
    have ht := is_rng hn hi
    simp only [f.y.e0, oI_some]
    refine xSc_and (e.kind != 6) (fun _ J hJ => hJ) ?_
    refine xSc_and (R.gone e.thread) (fun _ J' hJ' => ?_) hJ
    simp only [f.x.all, f.y.e1, oI_some]
    refine (meets_gone' w hm e.thread ht).look ?_
    simp only [oB_some]
    exact hJ'
  have may : R.may e = !(!R.is e.thread || decide (e.obj < 0) || decide (e.obj ≥ R.m) || e.kind != 5 && e.kind != 6 && R.gone e.thread) := rfl
  refine ⟨fun hc => ?_, fun hc => ?_⟩
  · simp only [f.x.all]
    refine f.fin w fun h2 l => ⟨?_, l⟩
    have : R.apply e = (R, 15) := by
      unfold Rm.apply; rw [may, hc]; rfl
    rw [this]; rfl
  have hmay : R.may e = true := by rw [may, hc]; rfl
  have rng : (0 ≤ e.obj ∧ e.obj < ((8 : Nat) : Int)) ∧ (0 ≤ e.thread ∧ e.thread < ((8 : Nat) : Int)) := by
    simp only [Bool.or_eq_false_iff, Bool.not_eq_false', decide_eq_false_iff_not] at hc
    obtain ⟨⟨⟨c1, c2⟩, c3⟩, c4⟩ := hc
    exact ⟨by omega, is_rng hn c1⟩
  obtain ⟨ho, ht⟩ := rng
  have o8 : e.obj.toNat < 8 := by omega
  simp only [f.x.all]
  have ap : R.apply e = if (!(R.act e).2) = true then (R, 15) else ((R.act e).1, 0) := by
    unfold Rm.apply; rw [hmay]; rfl
  refine xBox (c := (zeroC Try.prog 77).toList) (by simp) (by rw [Array.length_toList, Array.length_toList, zero_size, rmA_size w]) (by rw [Array.length_toList, rmA_size w]) (by decide) (one_rm R) fun b6 h2 l2 n6 e6 => ?_
  have g : Gx h b2 b3 b4 b6 R R e h2 := by
    obtain ⟨c, hc, ho⟩ := f.o
    refine ⟨f.le l2, ⟨by simpa using e6, w⟩, fun x => ?_, fun x => ?_, fun x => ?_, ?_⟩
    · subst x; rw [f.m] at n6; cases n6
    · subst x; rw [f.e] at n6; cases n6
    · subst x; rw [ho] at n6; cases n6
    · exact none_of f.l n6
  clear f e6 l2 n6
  simp only [g.f.y.e0, oI_some]
  refine xBlk_split1 (fun (x : Bool) h' => x = (R.act e).2 ∧ ∃ R', (x = true → R' = (R.act e).1) ∧ Gx h b2 b3 b4 b6 R R' e h') (fun x h' ⟨ex, R', eR, g⟩ => ?_) fun K hK => ?_
  · refine ⟨fun hx => ?_, fun hx => ?_⟩
    · simp only [g.f.x.all]
      refine g.f.fin w fun h2 l => ⟨?_, l⟩
      rw [ap, ← ex, if_pos hx]; rfl
    · have hx' : x = true := by simpa using hx
      simp only [oBig_eq g.x.m (rmA_size g.x.w)]
      refine g.f.fin g.x.w fun h2 l => ⟨?_, l⟩
      rw [ap, ← ex, if_neg (by rw [hx]; simp), ← eR hx']; rfl
  -- kinds 1, 2
  refine xIte_split1 (fun (x : Bool) h' => x = (e.kind == 1 || e.kind == 2) ∧ h' = h2) (fun x h' ⟨ex, eh⟩ => ?_) (fun hc K hK => hK _ _ ⟨by rw [hc]; rfl, rfl⟩) (fun hc K hK => hK _ _ ⟨by rw [hc]; rfl, rfl⟩)
  subst eh
  refine ⟨fun h0 => ?_, fun h0 => ?_⟩
  · have h0 : e.kind = 1 ∨ e.kind = 2 := by rw [h0] at ex; simpa using ex.symm
    have act : R.act e = ((R.enter e).1, (R.enter e).2 && e.arg == 0) := by unfold Rm.act; rw [if_pos h0]
    simp only [g.f.x.all, g.f.y.e0, g.f.y.e1, g.f.y.e2, g.f.y.e3, g.f.y.e4, oI_some]
    refine (meets_enter' w e ho).look ?_
    refine used (wf_enter w e) ?_
    refine g.put (wf_enter w e) fun h3 g => ?_
    refine xSc_and (e.arg == 0) (fun _ J hJ => by simp only [g.f.y.e3, oI_some]; exact hJ) ?_
    exact hK _ _ ⟨by rw [act], _, fun _ => by rw [act], g⟩
  have n12 : ¬(e.kind = 1 ∨ e.kind = 2) := by rw [h0] at ex; simpa using ex.symm
  -- kind 3
  refine ⟨fun h0 => ?_, fun h0 => ?_⟩
  · have h0 : e.kind = 3 := by simpa using h0
    have act : R.act e = (let ok := e.arg == 0 && (e.err == 0 && R.owns e || e.err == 9 && !R.owns e)
     (if (ok && e.err == 0) = true then
        (let R1 := R.setCt e.obj (IntKind.wrap .i64 (R.ct e.obj - 1))
         if R1.ct e.obj = 0 then R1.setOw e.obj 0 else R1)
      else R, ok)) := by unfold Rm.act; rw [if_neg n12, if_pos h0]
    refine xDraw_le ?_
    simp only [g.f.y.e0, g.f.y.e1, g.f.y.e2, g.f.y.e3, g.f.y.e4, oI_some, xIdxA_eq ho, g.f.x.ow o8]
    refine xSc_and (e.err == 0 && R.owns e || e.err == 9 && !R.owns e) (fun _ J hJ => ?_) ?_
    · try simp only [g.f.y.e4, oI_some]
      refine xSc_and (R.owns e) (fun _ J hJ => hJ) ?_
      refine xSc_or (e.err == 9 && !R.owns e) (fun _ J hJ => ?_) hJ
      simp only [g.f.y.e4, oI_some]
      exact xSc_and (!R.owns e) (fun _ J hJ => hJ) hJ
    refine xSc_and (e.err == 0) (fun _ J hJ => by simp only [g.f.y.e4, oI_some]; exact hJ) ?_
    refine xIte_split (fun h' => Gx h b2 b3 b4 b6 R (R.act e).1 e h') (fun h' g => hK _ _ ⟨by rw [act], _, fun _ => rfl, g⟩) (fun hc K hK => ?_) (fun hc K hK => hK _ ?_)
    · have e1 : (R.act e).1 = (if (R.setCt e.obj (IntKind.wrap .i64 (R.ct e.obj - 1))).ct e.obj = 0 then (R.setCt e.obj (IntKind.wrap .i64 (R.ct e.obj - 1))).setOw e.obj 0 else R.setCt e.obj (IntKind.wrap .i64 (R.ct e.obj - 1))) := by
        rw [act]; simp only []; rw [if_pos hc]
      simp only [g.f.y.e2, oI_some, xIdxA_eq ho, g.x.ct o8]
      refine g.sct o8 fun h3 g => ?_
      simp only [g.f.y.e2, oI_some, xIdxA_eq ho, g.x.ct o8]
      refine xIte_split (fun h' => Gx h b2 b3 b4 b6 R (R.act e).1 e h') (fun h' g => hK _ g) (fun hz K hK => ?_) (fun hz K hK => hK _ ?_)
      · have hz := eq_of_beq hz
        try simp only [g.f.y.e2, oI_some, xIdxA_eq ho]
        refine g.sow o8 fun h4 g => hK _ ?_
        rw [e1, if_pos hz]; exact g
      · have hz : ¬(R.setCt e.obj (IntKind.wrap .i64 (R.ct e.obj - 1))).ct e.obj = 0 := by
          intro x; rw [x] at hz; cases hz
        rw [e1, if_neg hz]; exact g
    · have e1 : (R.act e).1 = R := by
        rw [act]; simp only []; rw [if_neg (by rw [hc]; simp)]
      rw [e1]; exact g
  have n3 : ¬e.kind = 3 := by simpa using h0
  -- kinds 4, 5, 6
  refine xIte_split1 (fun (x : Bool) h'' => x = (e.kind == 4 || (e.kind == 5 || e.kind == 6)) ∧ h'' = h') (fun x h'' ⟨ex, eh⟩ => ?_) (fun hc K hK => hK _ _ ⟨by rw [hc]; rfl, rfl⟩)
    (fun hc K hK => xIte_split1 (fun (x : Bool) h'' => x = (e.kind == 5 || e.kind == 6) ∧ h'' = h') (fun x h'' ⟨ex, eh⟩ => hK _ _ ⟨by rw [hc, ex]; rfl, eh⟩) (fun hc K hK => hK _ _ ⟨by rw [hc]; rfl, rfl⟩) (fun hc K hK => hK _ _ ⟨by rw [hc]; rfl, rfl⟩))
  subst eh
  refine ⟨fun h0 => ?_, fun h0 => ?_⟩
  · have h0 : e.kind = 4 ∨ e.kind = 5 ∨ e.kind = 6 := by rw [h0] at ex; simpa using ex.symm
    have act : R.act e = if (decide (e.err ≥ 0) && decide (e.err < 100)) = true then ((R.wait e).1, (R.wait e).2 && e.arg == 0) else (R, false) := by unfold Rm.act; rw [if_neg n12, if_neg n3, if_pos h0]
    simp only [g.f.y.e4, oI_some]
    refine xSc_and (decide (e.err < 100)) (fun _ J hJ => by try simp only [g.f.y.e4, oI_some]
                                                            exact hJ) ?_
    refine xIte_split1 (fun (x : Bool) h' => (x && e.arg == 0) = (R.act e).2 ∧ ∃ R', ((x && e.arg == 0) = true → R' = (R.act e).1) ∧ Gx h b2 b3 b4 b6 R R' e h') (fun x h' ⟨ex, R', eR, g⟩ => ?_) (fun hc K hK => ?_) (fun hc K hK => hK _ _ ⟨?_, R, fun hx => (by cases hx), g⟩)
    · exact xSc_and (e.arg == 0) (fun _ J hJ => by simp only [g.f.y.e3, oI_some]; exact hJ) (hK _ _ ⟨ex, R', eR, g⟩)
    · have hr : 0 ≤ e.err ∧ e.err < 100 := by simpa using hc
      simp only [g.f.x.all, g.f.y.e0, g.f.y.e1, g.f.y.e2, g.f.y.e3, g.f.y.e4, oI_some]
      refine (meets_wait' w e ho ht h0 hr).look ?_
      refine used (wf_wait w e) ?_
      refine g.put (wf_wait w e) fun h3 g => ?_
      refine hK _ _ ⟨by rw [act, if_pos hc], _, fun _ => by rw [act, if_pos hc], g⟩
    · rw [act, if_neg (by rw [hc]; simp)]; rfl
  have n4 : ¬(e.kind = 4 ∨ e.kind = 5 ∨ e.kind = 6) := by rw [h0] at ex; simpa using ex.symm
  -- kinds 7, 8, 9
  refine xIte_split1 (fun (x : Bool) h3 => x = (e.kind == 7 || (e.kind == 8 || e.kind == 9)) ∧ h3 = h'') (fun x h3 ⟨ex, eh⟩ => ?_) (fun hc K hK => hK _ _ ⟨by rw [hc]; rfl, rfl⟩)
    (fun hc K hK => xIte_split1 (fun (x : Bool) h3 => x = (e.kind == 8 || e.kind == 9) ∧ h3 = h'') (fun x h3 ⟨ex, eh⟩ => hK _ _ ⟨by rw [hc, ex]; rfl, eh⟩) (fun hc K hK => hK _ _ ⟨by rw [hc]; rfl, rfl⟩) (fun hc K hK => hK _ _ ⟨by rw [hc]; rfl, rfl⟩))
  subst eh
  refine ⟨fun h0 => ?_, fun h0 => ?_⟩
  · have h0 : e.kind = 7 ∨ e.kind = 8 ∨ e.kind = 9 := by rw [h0] at ex; simpa using ex.symm
    have act : R.act e = R.tell e := by unfold Rm.act; rw [if_neg n12, if_neg n3, if_neg n4, if_pos h0]
    simp only [g.f.x.all, g.f.y.e0, g.f.y.e1, g.f.y.e2, g.f.y.e3, g.f.y.e4, oI_some]
    refine (meets_tell' w hn e ho).look ?_
    refine used (wf_tell w e) ?_
    refine g.put (wf_tell w e) fun h3 g => ?_
    exact hK _ _ ⟨by rw [act], _, fun _ => by rw [act], g⟩
  have n7 : ¬(e.kind = 7 ∨ e.kind = 8 ∨ e.kind = 9) := by rw [h0] at ex; simpa using ex.symm
  -- kinds 10, 11, 12
  refine xIte_split1 (fun (x : Bool) h4 => x = (e.kind == 10 || (e.kind == 11 || e.kind == 12)) ∧ h4 = h3) (fun x h4 ⟨ex, eh⟩ => ?_) (fun hc K hK => hK _ _ ⟨by rw [hc]; rfl, rfl⟩)
    (fun hc K hK => xIte_split1 (fun (x : Bool) h4 => x = (e.kind == 11 || e.kind == 12) ∧ h4 = h3) (fun x h4 ⟨ex, eh⟩ => hK _ _ ⟨by rw [hc, ex]; rfl, eh⟩) (fun hc K hK => hK _ _ ⟨by rw [hc]; rfl, rfl⟩) (fun hc K hK => hK _ _ ⟨by rw [hc]; rfl, rfl⟩))
  subst eh
  refine ⟨fun h0 => ?_, fun h0 => ?_⟩
  · have h0 : e.kind = 10 ∨ e.kind = 11 ∨ e.kind = 12 := by rw [h0] at ex; simpa using ex.symm
    have act : R.act e = R.ask e := by unfold Rm.act; rw [if_neg n12, if_neg n3, if_neg n4, if_neg n7, if_pos h0]
    simp only [g.f.x.all, g.f.y.e0, g.f.y.e1, g.f.y.e2, g.f.y.e3, g.f.y.e4, oI_some]
    refine (meets_ask' w hn e ho).look ?_
    refine used (wf_ask w e) ?_
    refine g.put (wf_ask w e) fun h3 g => ?_
    exact hK _ _ ⟨by rw [act], _, fun _ => by rw [act], g⟩
  have n10 : ¬(e.kind = 10 ∨ e.kind = 11 ∨ e.kind = 12) := by rw [h0] at ex; simpa using ex.symm
  refine hK _ _ ⟨?_, R, fun hx => (by cases hx), g⟩
  have act : R.act e = (R, false) := by unfold Rm.act; rw [if_neg n12, if_neg n3, if_neg n4, if_neg n7, if_neg n10]
  rw [act]

end Go.Rf
