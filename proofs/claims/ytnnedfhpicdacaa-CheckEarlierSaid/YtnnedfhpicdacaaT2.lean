/-
  The threads of places, rising: Waiters, Left.
-/
import Derived.Test.YtnnedfhpicdacaaT1
import Derived.Test.YtnnedfhpicdacaaN1
import Derived.Test.YtnnedfhpicdacaaFR
import Derived.Test.YtnnedfhpicdacaaK1
import Derived.Test.YtnnedfhpicdacaaM4
set_option linter.unusedSimpArgs false
set_option linter.unusedVariables false
namespace Go.Md
open Go Go.Sx Go.Proofs Go.Proofs.Ytnnedfhpicdacaa

def keyPair : Value → Int × Int
  | .agg ⟨[.int _ p, .int _ q]⟩ => (p, q)
  | _ => (0, 0)
/-- The threads of entries at an object. -/
def thrE (o : Int) (v : List MapEntry) : List Int := ((v.map fun e => keyPair e.key).filter fun p => p.1 == o).map (·.2)
def thrP {α : Type} (o : Int) (l : Pl α) : List Int := (l.filter fun p => p.1 == o).map (·.2.1)

theorem thrE_snoc (o : Int) (v : List MapEntry) (e : MapEntry) : thrE o (v ++ [e]) = thrE o v ++ (if (keyPair e.key).1 = o then [(keyPair e.key).2] else []) := by
  unfold thrE
  simp only [List.map_append, List.filter_append, List.map_cons, List.map_nil, List.filter_cons, List.filter_nil]
  by_cases h : (keyPair e.key).1 = o <;> simp [h]
theorem thrE_len (o : Int) (v : List MapEntry) : (thrE o v).length ≤ v.length := by
  unfold thrE
  rw [List.length_map]
  exact Nat.le_trans (List.length_filter_le _ _) (by simp)
theorem thrE_ents {α : Type} {enc : α → Value} {es : List MapEntry} {l : Pl α} (h : Ents enc es l) (o : Int) : thrE o es = thrP o l := by
  have e1 : es.map (fun e => keyPair (MapEntry.key e)) = l.map fun p => (p.1, p.2.1) := by
    have := congrArg (List.map fun x : Value × Value => keyPair x.1) h
    simpa [List.map_map, Function.comp_def, key2, keyPair] using this
  unfold thrE thrP
  rw [e1, List.filter_map, List.map_map]
  rfl
theorem thrE_perm (o : Int) {v w : List MapEntry} (h : v.Perm w) : (thrE o v).Perm (thrE o w) := ((h.map _).filter _).map _

theorem sortI_perm {l m : List Int} (h : l.Perm m) : sortI l = sortI m := by
  have tot : ∀ a b : Int, (decide (a ≤ b) || decide (b ≤ a)) = true := fun a b => by simp; omega
  have tr : ∀ a b c : Int, decide (a ≤ b) = true → decide (b ≤ c) = true → decide (a ≤ c) = true := fun a b c => by simp; omega
  have p1 := List.mergeSort_perm l fun x y => decide (x ≤ y)
  have p2 := List.mergeSort_perm m fun x y => decide (x ≤ y)
  have s1 := List.pairwise_mergeSort tr tot l
  have s2 := List.pairwise_mergeSort tr tot m
  unfold sortI
  refine List.Perm.eq_of_pairwise (le := fun a b : Int => decide (a ≤ b) = true) ?_ s1 s2 (p1.trans (h.trans p2.symm))
  intro a b _ _ h1 h2
  simp at h1 h2; omega

theorem perm_of_once {α : Type} {v w : List α} (h1 : v.Nodup) (h2 : w.Nodup) (h : ∀ e, e ∈ w ↔ e ∈ v) : v.Perm w := by
  classical
  exact (List.perm_ext_iff_of_nodup h1 h2).2 fun a => (h a).symm

theorem Stamps.nodup {es : List MapEntry} {cl : Nat} (s : Stamps es cl) : es.Nodup := by
  have := s.nd
  exact List.Pairwise.of_map _ (fun a b hne e => hne (by rw [e])) this

/-- Integers told. -/
def IntsAt (h0 h : PH) (v : Value) (l : List Int) : Prop := ∃ p n c S, v = .slice p n c ∧ IntsIn h p n c l S ∧ h0.le h ∧ ∀ b ∈ S, h0 b = none

section
variable (o : Int) (b3 b5 bd l : Nat) (r0 : Loop)
/-- What the one who ranges has. -/
def ThrI (v : List MapEntry) (S : List Nat) (h : PH) : Prop :=
  h b3 = some (.cells #[.int .i64 o] 3 (0, 0)) ∧ h bd = some (.deferred (some [])) ∧ h l = some (.loop r0) ∧ ∃ p n c T, h b5 = some (.cells #[.slice p n c] 47 (0, 0)) ∧ IntsIn h p n c (thrE o v) T ∧ S = [b3, b5, bd, l] ++ T ∧ (∀ x ∈ T, x ∉ [b3, b5, bd, l])
end
theorem thrI_kept (o : Int) (b3 b5 bd l : Nat) (r0 : Loop) : Kept (ThrI o b3 b5 bd l r0) := by
  constructor
  · rintro v S h h' ⟨e3, ed, el, p, n, c, T, e5, i, rfl, d⟩ hk
    refine ⟨(hk _ (by simp)).trans e3, (hk _ (by simp)).trans ed, (hk _ (by simp)).trans el, p, n, c, T, (hk _ (by simp)).trans e5, i.of fun b hb => hk _ (by simp [hb]), rfl, d⟩
  · rintro v S h ⟨e3, ed, el, p, n, c, T, e5, i, rfl, d⟩ b hb
    rcases List.mem_append.1 hb with hb | hb
    · simp only [List.mem_cons, List.not_mem_nil, or_false] at hb
      rcases hb with rfl | rfl | rfl | rfl
      · rw [e3]; simp
      · rw [e5]; simp
      · rw [ed]; simp
      · rw [el]; simp
    · exact i.known b hb

theorem nd4 {a b c d : Nat} (h : [a, b, c, d].Nodup) : a ≠ b ∧ a ≠ c ∧ a ≠ d ∧ b ≠ c ∧ b ≠ d ∧ c ≠ d := by
  simp only [List.nodup_cons, List.mem_cons, List.not_mem_nil, or_false, not_or, not_false_eq_true, List.nodup_nil, and_true] at h
  obtain ⟨⟨a, b, c⟩, ⟨d, e⟩, f⟩ := h
  exact ⟨a, b, c, d, e, f⟩

theorem thr_round {o p q : Int} {b3 b5 bd l : Nat} {r0 : Loop} (nd : [b3, b5, bd, l].Nodup) (hr : r0.state = .ready) (hp : r0.pending = none) {v : List MapEntry} {S : List Nat} {h1 : PH} {e : MapEntry} (hI : ThrI o b3 b5 bd l r0 v S h1) (hk : e.key = key2 p q) (few : v.length ≤ 1000000)
    (y8 : Value) (y7 y0 : Option Nat) (y4 : Option Addr) (y41 y42 : Nat) :
    R_model_threads_int y8 y7 ⟨b5, 0, none⟩ y4 y41 y42 ⟨b3, 0, none⟩ y0 o p q r0 l h1 fun r h2 => r = .bool true ∧ ∃ S', ThrI o b3 b5 bd l r0 (v ++ [e]) S' h2 ∧ Ext S h1 h2 ∧ ∀ b ∈ S', b ∈ S ∨ h1 b = none := by
  obtain ⟨n35, n3d, n3l, n5d, n5l, ndl⟩ := nd4 nd
  obtain ⟨e3, ed, el, sp, sn, sc, T, e5, i, rfl, dj⟩ := hI
  have kp : keyPair e.key = (p, q) := by rw [hk]; rfl
  unfold R_model_threads_int
  intro b6 n6
  refine xSt_mk (PH.upd_same _ _ _) rfl (by decide) (by simp [oneCell]) (by simp) ?_
  rw [PH.upd_upd, setN2]
  have l5 := PH.le_upd (O := .cells #[.int .i64 p, .int .i64 q] 122 (0, 0)) n6
  have e6 := PH.upd_same h1 b6 (.cells #[.int .i64 p, .int .i64 q] 122 (0, 0))
  generalize h1.upd b6 (.cells #[.int .i64 p, .int .i64 q] 122 (0, 0)) = h5 at l5 e6 ⊢
  have f3 := l5 _ _ e3
  have fd := l5 _ _ ed
  have fl := l5 _ _ el
  have f5 := l5 _ _ e5
  have n6l : b6 ≠ l := fun h => by subst h; rw [n6] at el; cases el
  have n63 : b6 ≠ b3 := fun h => by subst h; rw [n6] at e3; cases e3
  have n65 : b6 ≠ b5 := fun h => by subst h; rw [n6] at e5; cases e5
  have iT : ∀ x ∈ T, x ≠ b6 ∧ x ≠ l ∧ x ≠ b5 := by
    intro x hx
    have := dj x hx
    simp only [List.mem_cons, List.not_mem_nil, or_false, not_or] at this
    refine ⟨fun h => ?_, this.2.2.2, this.2.1⟩
    subst h
    exact i.known _ hx n6
  have eT : ∀ x ∈ T, h5 x = h1 x := by
    intro x hx
    cases hh : h1 x with
    | none => exact absurd hh (i.known x hx)
    | some O => exact l5 _ _ hh
  refine ⟨fl, ?_⟩
  -- the record is busy
  have g6 : (h5.upd l (.loop { r0 with state := .busy })) b6 = _ := (PH.upd_ne _ _ n6l).trans e6
  have g3 : (h5.upd l (.loop { r0 with state := .busy })) b3 = _ := (PH.upd_ne _ _ n3l).trans f3
  have g5 : (h5.upd l (.loop { r0 with state := .busy })) b5 = _ := (PH.upd_ne _ _ n5l).trans f5
  have gd : (h5.upd l (.loop { r0 with state := .busy })) bd = _ := (PH.upd_ne _ _ ndl).trans fd
  have gl := PH.upd_same h5 l (.loop { r0 with state := .busy })
  have gT : ∀ x ∈ T, (h5.upd l (.loop { r0 with state := .busy })) x = h1 x := fun x hx => (PH.upd_ne _ _ (iT x hx).2.1).trans (eT x hx)
  have gx : ∀ x O, h1 x = some O → x ≠ l → (h5.upd l (.loop { r0 with state := .busy })) x = some O := fun x O hx hn => (PH.upd_ne _ _ hn).trans (l5 _ _ hx)
  generalize h5.upd l (.loop { r0 with state := .busy }) = h6 at g6 g3 g5 gd gl gT gx ⊢
  have i6 := i.of gT
  simp only [xNn_some, add_mk, cell_mk, upd_at, del_at, if_true, if_false, Option.bind_some, List.getElem?_toArray, List.getElem?_cons_succ, List.getElem?_cons_zero, oI_some, oS_some, oM_some, oB_some, oP_some, oT_some, xIdx_some, Nat.zero_add, Nat.add_zero, Nat.mul_one, g6, g3]
  have back : (.loop { ({ r0 with state := .busy } : Loop) with state := .ready, pending := none } : Obj) = .loop r0 := by
    obtain ⟨st0, pd, fn0, tm0, pr0, as0, bd0, df0⟩ := r0
    dsimp only at hr hp ⊢
    subst hr; subst hp; rfl
  refine xBlk_split (fun h' => ∃ T', h' b3 = some (.cells #[.int .i64 o] 3 (0, 0)) ∧ h' bd = some (.deferred (some [])) ∧ h' l = some (.loop { r0 with state := .busy }) ∧ (∃ p n c, h' b5 = some (.cells #[.slice p n c] 47 (0, 0)) ∧ IntsIn h' p n c (thrE o (v ++ [e])) T') ∧ (∀ x ∈ T', x ∉ [b3, b5, bd, l]) ∧ (∀ x O, h1 x = some O → x ∉ [b3, b5, bd, l] ++ T → h' x = some O) ∧ ∀ x ∈ T', x ∈ T ∨ h1 x = none) ?_ ?_
  · rintro h' ⟨T', a3, ad, al, ⟨p', n', c', a5, i'⟩, dj', fr, nw⟩
    refine ⟨al, by trivial, [b3, b5, bd, l] ++ T', ⟨(PH.upd_ne _ _ n3l).trans a3, (PH.upd_ne _ _ ndl).trans ad, ?_, p', n', c', T', (PH.upd_ne _ _ n5l).trans a5, i'.of fun x hx => PH.upd_ne _ _ fun hh => ?_, rfl, dj'⟩, ?_, ?_⟩
    · exact (PH.upd_same _ _ _).trans (congrArg some back)
    · have := dj' x hx
      simp [hh] at this
    · intro x O hx hm
      have hxl : x ≠ l := fun hh => hm (by simp [hh])
      rw [PH.upd_ne _ _ hxl]
      exact fr x O hx hm
    · intro x hx
      rcases List.mem_append.1 hx with hx | hx
      · exact .inl (List.mem_append_left _ hx)
      · rcases nw x hx with h | h
        · exact .inl (List.mem_append_right _ h)
        · exact .inr h
  intro K' hK'
  have frame : ∀ x O, h1 x = some O → x ∉ [b3, b5, bd, l] ++ T → h6 x = some O := fun x O hx hm => gx x O hx fun hh => hm (by simp [hh])
  refine ⟨fun hc => ?_, fun hc => ?_⟩
  · -- a thread at the object
    have hc : p = o := by simpa using hc
    simp only [xNn_some, add_mk, cell_mk, upd_at, del_at, if_true, if_false, Option.bind_some, List.getElem?_toArray, List.getElem?_cons_succ, List.getElem?_cons_zero, oI_some, oS_some, oM_some, oB_some, oP_some, oT_some, xIdx_some, Nat.zero_add, Nat.add_zero, Nat.mul_one, g5, g6]
    intro b17 n17
    have l7 := PH.le_upd (O := .cells #[.int .i64 q] 3 (0, 0)) n17
    have e17 := PH.upd_same h6 b17 (.cells #[.int .i64 q] 3 (0, 0))
    generalize h6.upd b17 (.cells #[.int .i64 q] 3 (0, 0)) = h7 at l7 e17 ⊢
    have i7 := i6.of (h' := h7) fun x hx => by
      cases hh : h6 x with
      | none => exact absurd hh (i6.known x hx)
      | some O => exact l7 _ _ hh
    refine i7.app e17 (Nat.le_trans (thrE_len _ _) few) ?_
    intro p' n' c' h8 S' i8 x8 nw8
    have n17x : ∀ {x : Nat} {O : Obj}, h6 x = some O → x ∉ T → h8 x = some O := fun hx hm => x8 _ _ (l7 _ _ hx) hm
    have offT : ∀ {x : Nat}, x ∈ [b3, b5, bd, l] → x ∉ T := fun hx hm => dj _ hm hx
    have k3 := n17x g3 (offT (by simp))
    have k5 := n17x g5 (offT (by simp))
    have kd := n17x gd (offT (by simp))
    have kl := n17x gl (offT (by simp))
    have newS : ∀ x ∈ S', x ∈ T ∨ h6 x = none := by
      intro x hx
      rcases nw8 x hx with h | h
      · exact .inl h
      · right
        cases hh : h6 x with
        | none => rfl
        | some O => rw [l7 _ _ hh] at h; cases h
    have offS : ∀ {x : Nat} {O : Obj}, h6 x = some O → x ∉ T → x ∉ S' := fun hx hm hs => by
      rcases newS _ hs with h | h
      · exact hm h
      · rw [hx] at h; cases h
    refine xSt_mk k5 rfl (by decide) (by simp [oneCell]) (by simp) ?_
    have s1 : setN #[Value.slice sp sn sc] 0 [.slice p' n' c'] = #[.slice p' n' c'] := rfl
    rw [s1]
    refine hK' _ ⟨S', (PH.upd_ne _ _ n35).trans k3, (PH.upd_ne _ _ (Ne.symm n5d)).trans kd, (PH.upd_ne _ _ (Ne.symm n5l)).trans kl, ⟨p', n', c', PH.upd_same _ _ _, ?_⟩, ?_, ?_, ?_⟩
    · rw [thrE_snoc, kp, if_pos hc]
      exact i8.of fun x hx => PH.upd_ne _ _ fun hh => by subst hh; exact offS g5 (offT (by simp)) hx
    · intro x hx hm
      simp only [List.mem_cons, List.not_mem_nil, or_false] at hm
      rcases hm with rfl | rfl | rfl | rfl
      · exact offS g3 (offT (by simp)) hx
      · exact offS g5 (offT (by simp)) hx
      · exact offS gd (offT (by simp)) hx
      · exact offS gl (offT (by simp)) hx
    · intro x O hx hm
      have h6x := frame x O hx hm
      have hx5 : x ≠ b5 := fun hh => hm (by simp [hh])
      rw [PH.upd_ne _ _ hx5]
      exact n17x h6x fun ht => hm (List.mem_append_right _ ht)
    · intro x hx
      rcases newS x hx with h | h
      · exact .inl h
      · by_cases hm : x ∈ [b3, b5, bd, l] ++ T
        · rcases List.mem_append.1 hm with hm | hm
          · exfalso
            simp only [List.mem_cons, List.not_mem_nil, or_false] at hm
            rcases hm with rfl | rfl | rfl | rfl
            · rw [g3] at h; cases h
            · rw [g5] at h; cases h
            · rw [gd] at h; cases h
            · rw [gl] at h; cases h
          · exact .inl hm
        · right
          cases hh : h1 x with
          | none => rfl
          | some O => rw [frame x O hh hm] at h; cases h
  · have hc : ¬p = o := by simpa using hc
    refine hK' _ ⟨T, g3, gd, gl, ⟨sp, sn, sc, g5, ?_⟩, dj, frame, fun x hx => .inl hx⟩
    rw [thrE_snoc, kp, if_neg hc, List.append_nil]
    exact i6


theorem thr_round_left {o p q : Int} {b3 b5 bd l : Nat} {r0 : Loop} (nd : [b3, b5, bd, l].Nodup) (hr : r0.state = .ready) (hp : r0.pending = none) {v : List MapEntry} {S : List Nat} {h1 : PH} {e : MapEntry} (hI : ThrI o b3 b5 bd l r0 v S h1) (hk : e.key = key2 p q) (few : v.length ≤ 1000000)
    (y8 : Value) (y7 y0 : Option Nat) (y4 : Option Addr) (y41 y42 : Nat) :
    R_model_threads_model_left y8 y7 ⟨b5, 0, none⟩ y4 y41 y42 ⟨b3, 0, none⟩ y0 o p q r0 l h1 fun r h2 => r = .bool true ∧ ∃ S', ThrI o b3 b5 bd l r0 (v ++ [e]) S' h2 ∧ Ext S h1 h2 ∧ ∀ b ∈ S', b ∈ S ∨ h1 b = none := thr_round nd hr hp hI hk few y8 y7 y0 y4 y41 y42

theorem meets_threads_waits {h : PH} {b : Nat} {l : Pl Int} (r : MapRep encI h b l) (few : l.length ≤ 64) (o : Int) : Meets Try.prog 59 #[.map (some b), .int .i64 o] h fun v h' => IntsAt h h' v (sortI (thrP o l)) := by
  obtain ⟨es, cl, eb, en, st⟩ := r
  have elen : es.toList.length = l.length := by
    have := congrArg List.length en
    simpa using this
  apply P_model_threads_int_of
  unfold P_model_threads_int
  intro b3 n3
  have e3 := PH.upd_same h b3 (.cells #[.int .i64 o] 3 (0, 0))
  have l1 := PH.le_upd (O := .cells #[.int .i64 o] 3 (0, 0)) n3
  generalize h.upd b3 (.cells #[.int .i64 o] 3 (0, 0)) = h1 at e3 l1 ⊢
  intro b5 n5
  have e5 := PH.upd_same h1 b5 (.cells #[.slice none 0 0] 47 (0, 0))
  have l2 := PH.le_upd (O := .cells #[.slice none 0 0] 47 (0, 0)) n5
  generalize h1.upd b5 (.cells #[.slice none 0 0] 47 (0, 0)) = h2 at e5 l2 ⊢
  have f3 := l2 _ _ e3
  have m5 : h b5 = none := none_of l1 n5
  have n35 : b3 ≠ b5 := ne_of_known e3 n5
  have eb2 := l2 _ _ (l1 _ _ eb)
  apply P_maps_Keys_map_model_place_int_model_place_int_of
  unfold P_maps_Keys_map_model_place_int_model_place_int
  intro c0 nc
  have ec := PH.upd_same h2 c0 (.cells #[.map (some b)] 42 (0, 0))
  have l3 := PH.le_upd (O := .cells #[.map (some b)] 42 (0, 0)) nc
  generalize h2.upd c0 (.cells #[.map (some b)] 42 (0, 0)) = h3 at ec l3 ⊢
  simp only [oV_some]
  refine ⟨105, [.pointer (some ⟨c0, 0, none⟩)], rfl, by kernel_rfl, ?_⟩
  intro fn tmps bd lp hsz hfit nd nl hdl
  have g3 := l3 _ _ f3
  have g5 := l3 _ _ e5
  have eb3 := l3 _ _ eb2
  have le3 := PH.le_trans l1 (PH.le_trans l2 l3)
  have md : h bd = none := none_of le3 nd
  have ml : h lp = none := none_of le3 nl
  have n3d : b3 ≠ bd := ne_of_known g3 nd
  have n3l : b3 ≠ lp := ne_of_known g3 nl
  have n5d : b5 ≠ bd := ne_of_known g5 nd
  have n5l : b5 ≠ lp := ne_of_known g5 nl
  have ncd : c0 ≠ bd := ne_of_known ec nd
  have ncl : c0 ≠ lp := ne_of_known ec nl
  have nbd : b ≠ bd := ne_of_known eb3 nd
  have nbl : b ≠ lp := ne_of_known eb3 nl
  have nd4' : [b3, b5, bd, lp].Nodup := by simp [n35, n3d, n3l, n5d, n5l, hdl]
  have lv : ∀ O O', h3.le ((h3.upd bd O).upd lp O') := fun O O' => PH.le_trans (PH.le_upd nd) (PH.le_upd ((PH.upd_ne _ _ (Ne.symm hdl)).trans nl))
  generalize hr0 : ({ state := .ready, pending := none, fn := fn, tmps := tmps, params := #[9], assign := rfAssign Try.f59, body := rfBody Try.f59, defers := bd } : Loop) = r0
  have q1 : r0.state = .ready := by rw [← hr0]
  have q2 : r0.pending = none := by rw [← hr0]
  have bnot : b ∉ [b3, b5, bd, lp] := by
    simp only [List.mem_cons, List.not_mem_nil, or_false, not_or]
    exact ⟨fun hh => (by subst hh; rw [n3] at eb; cases eb), fun hh => (by subst hh; rw [m5] at eb; cases eb), nbd, nbl⟩
  have h0 : ThrI o b3 b5 bd lp r0 [] [b3, b5, bd, lp] ((h3.upd bd (.deferred (some []))).upd lp (.loop r0)) := by
    refine ⟨lv _ _ _ _ g3, (PH.upd_ne _ _ hdl).trans (PH.upd_same _ _ _), PH.upd_same _ _ _, none, 0, 0, [], lv _ _ _ _ g5, IntsIn.nil _, by simp, by simp⟩
  refine (meets_keys_waits (thrI_kept o b3 b5 bd lp r0) (lv _ _ _ _ eb3) (lv _ _ _ _ ec) st en.keys bnot h0 ?_).mono ?_
  · intro v S hh e hI he nv sv
    obtain ⟨p, q, hk⟩ := en.keys e he
    have few' : v.length ≤ 1000000 := by
      have := nodup_le nv sv
      rw [List.length_append] at this
      simp only [List.length_singleton] at this
      omega
    have rd := thr_round nd4' q1 q2 hI hk few' (.func (.func 105) #[] #[.pointer (some ⟨c0, 0, none⟩)]) (some b) (some b) none 0 0
    have rd' := (R_model_threads_int_eq _ _ _ _ _ _ _ _ _ _ _ _ _ _ _).mpr rd
    rw [hk]
    have hl := hI.2.2.1
    subst hr0
    refine yield_of2 (e0 := [(9, key2 p q), (8, .func (.func 105) #[] #[.pointer (some ⟨c0, 0, none⟩)]), (7, .map (some b)), (5, .pointer (some ⟨b5, 0, none⟩)), (4, .slice none 0 0), (3, .pointer (some ⟨b3, 0, none⟩)), (0, .map (some b)), (1, .int .i64 o)]) (annA := AA_model_threads_int) (annB := AB_model_threads_int) (m := 22) rfl rfl hl rfl rfl (fits_round hfit (show 9 < tmps.size by omega)) ?_ (by kernel_rfl) (by kernel_rfl) ?_
    · simpa using hsz
    · exact rd'
  · rintro v hh ⟨rfl, w, S, ⟨k3, kd, kl, p, n, c, T, k5, i, rfl, dj⟩, hmem, nw, xt, nw0⟩
    refine ⟨r0, kl, by rw [q1]; simp, q2, ?_⟩
    have hx := PH.upd_ne hh (.loop { r0 with state := .exhausted }) n5l
    have hd := PH.upd_ne hh (.loop { r0 with state := .exhausted }) (Ne.symm (Ne.symm hdl))
    have hT : ∀ x ∈ T, (hh.upd lp (.loop { r0 with state := .exhausted })) x = hh x := fun x ht => PH.upd_ne _ _ fun e => by subst e; have := dj _ ht; simp at this
    have off4 : ∀ x O, h x = some O → x ∉ [b3, b5, bd, lp] := fun x O hx' hm => by
      simp only [List.mem_cons, List.not_mem_nil, or_false] at hm
      rcases hm with rfl | rfl | rfl | rfl
      · rw [n3] at hx'; cases hx'
      · rw [m5] at hx'; cases hx'
      · rw [md] at hx'; cases hx'
      · rw [ml] at hx'; cases hx'
    have fr : h.le (hh.upd lp (.loop { r0 with state := .exhausted })) := fun x O hx' => by
      have hm := off4 x O hx'
      have hl' : x ≠ lp := fun e => hm (by simp [e])
      rw [PH.upd_ne _ _ hl']
      exact xt x O (lv _ _ _ _ (le3 _ _ hx')) hm
    have nT : ∀ x ∈ T, h x = none := fun x ht => by
      rcases nw0 x (List.mem_append_right _ ht) with h' | h'
      · exact absurd h' (dj x ht)
      · cases hh' : h x with
        | none => rfl
        | some O => rw [lv _ _ _ _ (le3 _ _ hh')] at h'; cases h'
    have ndT : ∀ x ∈ T, x ≠ bd ∧ x ≠ b5 := fun x ht => by have := dj x ht; simp only [List.mem_cons, List.not_mem_nil, or_false, not_or] at this; exact ⟨this.2.2.1, this.2.1⟩
    have k5' := hx.trans k5
    have kd' := hd.trans kd
    have i' := i.of hT
    clear hx hd hT
    generalize hh.upd lp (.loop { r0 with state := .exhausted }) = h11 at k5' kd' i' fr ⊢
    have hsrt : sortI (thrE o w) = sortI (thrP o l) := by
      rw [← thrE_ents en o]
      exact sortI_perm (thrE_perm o (perm_of_once nw st.nodup (fun e => hmem e)))
    have hlen : (thrE o w).length < 4611686018427387904 := by
      have h1 := nodup_le nw (fun e he => (hmem e).2 he)
      have h2 := thrE_len o w
      omega
    simp only [xNn_some, add_mk, cell_mk, upd_at, del_at, if_true, if_false, Option.bind_some, List.getElem?_toArray, List.getElem?_cons_succ, List.getElem?_cons_zero, oI_some, oS_some, oM_some, oB_some, oP_some, oT_some, xIdx_some, Nat.zero_add, Nat.add_zero, Nat.mul_one, k5']
    obtain ⟨rfl, ⟨hv, rfl, rfl, rfl⟩ | ⟨bo, junk, rfl, eo, hc, hj, rfl⟩⟩ := i'
    · rw [hv] at hsrt k5' ⊢
      refine (meets_sort_nil none 0).look ?_
      simp only [xNn_some, add_mk, cell_mk, upd_at, del_at, if_true, if_false, Option.bind_some, List.getElem?_toArray, List.getElem?_cons_succ, List.getElem?_cons_zero, oI_some, oS_some, oM_some, oB_some, oP_some, oT_some, xIdx_some, Nat.zero_add, Nat.add_zero, Nat.mul_one, k5', oTup_mk]
      refine ⟨rfl, ⟨kd', trivial⟩, ?_⟩
      rw [← hsrt]
      refine ⟨none, 0, 0, [], rfl, (by rw [show sortI [] = [] from by simp [sortI]]; exact IntsIn.nil _), ?_, by simp⟩
      exact fun x O hx' => (PH.upd_ne _ _ fun e => by subst e; rw [md] at hx'; cases hx').trans (fr _ _ hx')
    · have nbo := nT bo (by simp)
      obtain ⟨bo1, bo2⟩ := ndT bo (by simp)
      refine (meets_sort c eo hlen).mono ?_
      rintro _ _ ⟨rfl, rfl⟩
      simp only [xNn_some, add_mk, cell_mk, upd_at, del_at, if_true, if_false, Option.bind_some, List.getElem?_toArray, List.getElem?_cons_succ, List.getElem?_cons_zero, oI_some, oS_some, oM_some, oB_some, oP_some, oT_some, xIdx_some, Nat.zero_add, Nat.add_zero, Nat.mul_one, oTup_mk, Ne.symm bo2, k5']
      refine ⟨rfl, ⟨(PH.upd_ne _ _ (Ne.symm bo1)).trans kd', trivial⟩, ?_⟩
      refine ⟨some ⟨bo, 0, none⟩, _, c, [bo], rfl, ⟨by rw [← hsrt, sortI_length], .inr ⟨bo, junk, rfl, ?_, by rw [← hsrt, sortI_length]; exact hc, by rw [← hsrt, sortI_length]; exact hj, rfl⟩⟩, ?_, by simp [nbo]⟩
      · show ((h11.upd bo _).upd bd _) bo = _
        rw [PH.upd_ne _ _ bo1, PH.upd_same, hsrt]
      · intro x O hx'
        have h1 : x ≠ bd := fun e => by subst e; rw [md] at hx'; cases hx'
        have h2 : x ≠ bo := fun e => by subst e; rw [nbo] at hx'; cases hx'
        show ((h11.upd bo _).upd bd _) x = _
        rw [PH.upd_ne _ _ h1, PH.upd_ne _ _ h2]
        exact fr _ _ hx'

theorem meets_threads_left {h : PH} {b : Nat} {l : Pl (Int × Int)} (r : MapRep encL h b l) (few : l.length ≤ 64) (o : Int) : Meets Try.prog 60 #[.map (some b), .int .i64 o] h fun v h' => IntsAt h h' v (sortI (thrP o l)) := by
  obtain ⟨es, cl, eb, en, st⟩ := r
  have elen : es.toList.length = l.length := by
    have := congrArg List.length en
    simpa using this
  apply P_model_threads_model_left_of
  unfold P_model_threads_model_left
  intro b3 n3
  have e3 := PH.upd_same h b3 (.cells #[.int .i64 o] 3 (0, 0))
  have l1 := PH.le_upd (O := .cells #[.int .i64 o] 3 (0, 0)) n3
  generalize h.upd b3 (.cells #[.int .i64 o] 3 (0, 0)) = h1 at e3 l1 ⊢
  intro b5 n5
  have e5 := PH.upd_same h1 b5 (.cells #[.slice none 0 0] 47 (0, 0))
  have l2 := PH.le_upd (O := .cells #[.slice none 0 0] 47 (0, 0)) n5
  generalize h1.upd b5 (.cells #[.slice none 0 0] 47 (0, 0)) = h2 at e5 l2 ⊢
  have f3 := l2 _ _ e3
  have m5 : h b5 = none := none_of l1 n5
  have n35 : b3 ≠ b5 := ne_of_known e3 n5
  have eb2 := l2 _ _ (l1 _ _ eb)
  apply P_maps_Keys_map_model_place_model_left_model_place_model_left_of
  unfold P_maps_Keys_map_model_place_model_left_model_place_model_left
  intro c0 nc
  have ec := PH.upd_same h2 c0 (.cells #[.map (some b)] 43 (0, 0))
  have l3 := PH.le_upd (O := .cells #[.map (some b)] 43 (0, 0)) nc
  generalize h2.upd c0 (.cells #[.map (some b)] 43 (0, 0)) = h3 at ec l3 ⊢
  simp only [oV_some]
  refine ⟨108, [.pointer (some ⟨c0, 0, none⟩)], rfl, by kernel_rfl, ?_⟩
  intro fn tmps bd lp hsz hfit nd nl hdl
  have g3 := l3 _ _ f3
  have g5 := l3 _ _ e5
  have eb3 := l3 _ _ eb2
  have le3 := PH.le_trans l1 (PH.le_trans l2 l3)
  have md : h bd = none := none_of le3 nd
  have ml : h lp = none := none_of le3 nl
  have n3d : b3 ≠ bd := ne_of_known g3 nd
  have n3l : b3 ≠ lp := ne_of_known g3 nl
  have n5d : b5 ≠ bd := ne_of_known g5 nd
  have n5l : b5 ≠ lp := ne_of_known g5 nl
  have ncd : c0 ≠ bd := ne_of_known ec nd
  have ncl : c0 ≠ lp := ne_of_known ec nl
  have nbd : b ≠ bd := ne_of_known eb3 nd
  have nbl : b ≠ lp := ne_of_known eb3 nl
  have nd4' : [b3, b5, bd, lp].Nodup := by simp [n35, n3d, n3l, n5d, n5l, hdl]
  have lv : ∀ O O', h3.le ((h3.upd bd O).upd lp O') := fun O O' => PH.le_trans (PH.le_upd nd) (PH.le_upd ((PH.upd_ne _ _ (Ne.symm hdl)).trans nl))
  generalize hr0 : ({ state := .ready, pending := none, fn := fn, tmps := tmps, params := #[9], assign := rfAssign Try.f60, body := rfBody Try.f60, defers := bd } : Loop) = r0
  have q1 : r0.state = .ready := by rw [← hr0]
  have q2 : r0.pending = none := by rw [← hr0]
  have bnot : b ∉ [b3, b5, bd, lp] := by
    simp only [List.mem_cons, List.not_mem_nil, or_false, not_or]
    exact ⟨fun hh => (by subst hh; rw [n3] at eb; cases eb), fun hh => (by subst hh; rw [m5] at eb; cases eb), nbd, nbl⟩
  have h0 : ThrI o b3 b5 bd lp r0 [] [b3, b5, bd, lp] ((h3.upd bd (.deferred (some []))).upd lp (.loop r0)) := by
    refine ⟨lv _ _ _ _ g3, (PH.upd_ne _ _ hdl).trans (PH.upd_same _ _ _), PH.upd_same _ _ _, none, 0, 0, [], lv _ _ _ _ g5, IntsIn.nil _, by simp, by simp⟩
  refine (meets_keys_left (thrI_kept o b3 b5 bd lp r0) (lv _ _ _ _ eb3) (lv _ _ _ _ ec) st en.keys bnot h0 ?_).mono ?_
  · intro v S hh e hI he nv sv
    obtain ⟨p, q, hk⟩ := en.keys e he
    have few' : v.length ≤ 1000000 := by
      have := nodup_le nv sv
      rw [List.length_append] at this
      simp only [List.length_singleton] at this
      omega
    have rd := thr_round_left nd4' q1 q2 hI hk few' (.func (.func 108) #[] #[.pointer (some ⟨c0, 0, none⟩)]) (some b) (some b) none 0 0
    have rd' := (R_model_threads_model_left_eq _ _ _ _ _ _ _ _ _ _ _ _ _ _ _).mpr rd
    rw [hk]
    have hl := hI.2.2.1
    subst hr0
    refine yield_of2 (e0 := [(9, key2 p q), (8, .func (.func 108) #[] #[.pointer (some ⟨c0, 0, none⟩)]), (7, .map (some b)), (5, .pointer (some ⟨b5, 0, none⟩)), (4, .slice none 0 0), (3, .pointer (some ⟨b3, 0, none⟩)), (0, .map (some b)), (1, .int .i64 o)]) (annA := AA_model_threads_model_left) (annB := AB_model_threads_model_left) (m := 22) rfl rfl hl rfl rfl (fits_round hfit (show 9 < tmps.size by omega)) ?_ (by kernel_rfl) (by kernel_rfl) ?_
    · simpa using hsz
    · exact rd'
  · rintro v hh ⟨rfl, w, S, ⟨k3, kd, kl, p, n, c, T, k5, i, rfl, dj⟩, hmem, nw, xt, nw0⟩
    refine ⟨r0, kl, by rw [q1]; simp, q2, ?_⟩
    have hx := PH.upd_ne hh (.loop { r0 with state := .exhausted }) n5l
    have hd := PH.upd_ne hh (.loop { r0 with state := .exhausted }) (Ne.symm (Ne.symm hdl))
    have hT : ∀ x ∈ T, (hh.upd lp (.loop { r0 with state := .exhausted })) x = hh x := fun x ht => PH.upd_ne _ _ fun e => by subst e; have := dj _ ht; simp at this
    have off4 : ∀ x O, h x = some O → x ∉ [b3, b5, bd, lp] := fun x O hx' hm => by
      simp only [List.mem_cons, List.not_mem_nil, or_false] at hm
      rcases hm with rfl | rfl | rfl | rfl
      · rw [n3] at hx'; cases hx'
      · rw [m5] at hx'; cases hx'
      · rw [md] at hx'; cases hx'
      · rw [ml] at hx'; cases hx'
    have fr : h.le (hh.upd lp (.loop { r0 with state := .exhausted })) := fun x O hx' => by
      have hm := off4 x O hx'
      have hl' : x ≠ lp := fun e => hm (by simp [e])
      rw [PH.upd_ne _ _ hl']
      exact xt x O (lv _ _ _ _ (le3 _ _ hx')) hm
    have nT : ∀ x ∈ T, h x = none := fun x ht => by
      rcases nw0 x (List.mem_append_right _ ht) with h' | h'
      · exact absurd h' (dj x ht)
      · cases hh' : h x with
        | none => rfl
        | some O => rw [lv _ _ _ _ (le3 _ _ hh')] at h'; cases h'
    have ndT : ∀ x ∈ T, x ≠ bd ∧ x ≠ b5 := fun x ht => by have := dj x ht; simp only [List.mem_cons, List.not_mem_nil, or_false, not_or] at this; exact ⟨this.2.2.1, this.2.1⟩
    have k5' := hx.trans k5
    have kd' := hd.trans kd
    have i' := i.of hT
    clear hx hd hT
    generalize hh.upd lp (.loop { r0 with state := .exhausted }) = h11 at k5' kd' i' fr ⊢
    have hsrt : sortI (thrE o w) = sortI (thrP o l) := by
      rw [← thrE_ents en o]
      exact sortI_perm (thrE_perm o (perm_of_once nw st.nodup (fun e => hmem e)))
    have hlen : (thrE o w).length < 4611686018427387904 := by
      have h1 := nodup_le nw (fun e he => (hmem e).2 he)
      have h2 := thrE_len o w
      omega
    simp only [xNn_some, add_mk, cell_mk, upd_at, del_at, if_true, if_false, Option.bind_some, List.getElem?_toArray, List.getElem?_cons_succ, List.getElem?_cons_zero, oI_some, oS_some, oM_some, oB_some, oP_some, oT_some, xIdx_some, Nat.zero_add, Nat.add_zero, Nat.mul_one, k5']
    obtain ⟨rfl, ⟨hv, rfl, rfl, rfl⟩ | ⟨bo, junk, rfl, eo, hc, hj, rfl⟩⟩ := i'
    · rw [hv] at hsrt k5' ⊢
      refine (meets_sort_nil none 0).look ?_
      simp only [xNn_some, add_mk, cell_mk, upd_at, del_at, if_true, if_false, Option.bind_some, List.getElem?_toArray, List.getElem?_cons_succ, List.getElem?_cons_zero, oI_some, oS_some, oM_some, oB_some, oP_some, oT_some, xIdx_some, Nat.zero_add, Nat.add_zero, Nat.mul_one, k5', oTup_mk]
      refine ⟨rfl, ⟨kd', trivial⟩, ?_⟩
      rw [← hsrt]
      refine ⟨none, 0, 0, [], rfl, (by rw [show sortI [] = [] from by simp [sortI]]; exact IntsIn.nil _), ?_, by simp⟩
      exact fun x O hx' => (PH.upd_ne _ _ fun e => by subst e; rw [md] at hx'; cases hx').trans (fr _ _ hx')
    · have nbo := nT bo (by simp)
      obtain ⟨bo1, bo2⟩ := ndT bo (by simp)
      refine (meets_sort c eo hlen).mono ?_
      rintro _ _ ⟨rfl, rfl⟩
      simp only [xNn_some, add_mk, cell_mk, upd_at, del_at, if_true, if_false, Option.bind_some, List.getElem?_toArray, List.getElem?_cons_succ, List.getElem?_cons_zero, oI_some, oS_some, oM_some, oB_some, oP_some, oT_some, xIdx_some, Nat.zero_add, Nat.add_zero, Nat.mul_one, oTup_mk, Ne.symm bo2, k5']
      refine ⟨rfl, ⟨(PH.upd_ne _ _ (Ne.symm bo1)).trans kd', trivial⟩, ?_⟩
      refine ⟨some ⟨bo, 0, none⟩, _, c, [bo], rfl, ⟨by rw [← hsrt, sortI_length], .inr ⟨bo, junk, rfl, ?_, by rw [← hsrt, sortI_length]; exact hc, by rw [← hsrt, sortI_length]; exact hj, rfl⟩⟩, ?_, by simp [nbo]⟩
      · show ((h11.upd bo _).upd bd _) bo = _
        rw [PH.upd_ne _ _ bo1, PH.upd_same, hsrt]
      · intro x O hx'
        have h1 : x ≠ bd := fun e => by subst e; rw [md] at hx'; cases hx'
        have h2 : x ≠ bo := fun e => by subst e; rw [nbo] at hx'; cases hx'
        show ((h11.upd bo _).upd bd _) x = _
        rw [PH.upd_ne _ _ h1, PH.upd_ne _ _ h2]
        exact fr _ _ hx'

end Go.Md
