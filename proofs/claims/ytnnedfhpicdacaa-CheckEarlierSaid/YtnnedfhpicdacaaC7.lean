/-
  The search for an order.
-/
import Derived.Test.YtnnedfhpicdacaaC6
import Derived.Test.YtnnedfhpicdacaaK1
set_option linter.unusedSimpArgs false
set_option linter.unusedVariables false
namespace Go.Ck
open Go Go.Sx Go.Md Go.Proofs Go.Proofs.Ytnnedfhpicdacaa

def cost : Nat → Nat
  | 0 => 1
  | f + 1 => 1 + (f + 1) * cost f

theorem flat_next {s : Ms} (k : s.Flat) {c : Cl} (hm : c.may = true) : (s.next c.event).Flat := by
  have hk : c.event.kind = 1 ∨ c.event.kind = 2 ∨ c.event.kind = 3 ∨ c.event.kind = 9 ∨ c.event.kind = 11 ∨ c.event.kind = 12 ∨ c.event.kind = 8 ∨ c.event.kind = 10 := by
    unfold Cl.may at hm
    split at hm
    · cases hm
    split at hm
    · omega
    split at hm
    · omega
    split at hm
    · omega
    · cases hm
  generalize c.event = e at hk
  have key : ∀ s', s.apply e = some s' → s'.Flat := by
    intro s' h
    have up : ∀ {m : List Mo} {f : List Bool}, s' = { s with mons := m, flags := f } → s'.Flat := by
      intro m f e; subst e; exact ⟨k.w, k.l⟩
    have same : ∀ {x : Ms}, some x = some s' → x = s → s'.Flat := by
      intro x h1 h2; simp only [Option.some.injEq] at h1; subst h1; subst h2; exact k
    unfold Ms.apply at h
    split at h
    · split at h
      · unfold Ms.enter at h
        split at h
        · split at h
          · cases h
          · simp only [Option.some.injEq] at h; exact up (f := s.flags) h.symm
        split at h
        · split at h
          · exact same h rfl
          · cases h
        split at h
        · split at h
          · exact same h rfl
          · cases h
        split at h
        · split at h
          · exact same h rfl
          · cases h
        · cases h
      · cases h
    split at h
    · split at h
      · unfold Ms.exit at h
        split at h
        · split at h
          · cases h
          · exact same h rfl
        · split at h
          · cases h
          · simp only [Option.some.injEq] at h; exact up (f := s.flags) h.symm
      · cases h
    split at h
    · omega
    split at h
    · omega
    split at h
    · omega
    split at h
    · unfold Ms.tell at h
      split at h
      · omega
      split at h
      · split at h
        · exact same h rfl
        · cases h
      split at h
      · cases h
      split at h
      · split at h
        · exact same h rfl
        · cases h
      · split at h
        · exact same h rfl
        · cases h
    split at h
    · unfold Ms.hash at h
      split at h
      · split at h
        · exact same h rfl
        · cases h
      · split at h
        · cases h
        · simp only [Option.some.injEq] at h; exact up (f := s.flags) h.symm
    split at h
    · unfold Ms.holds at h
      split at h
      · exact same h rfl
      · cases h
    split at h
    · split at h
      · cases h
      · simp only [Option.some.injEq] at h; exact up (m := s.mons) h.symm
    · cases h
  unfold Ms.next Ms.step
  split
  · cases h : s.apply e with
    | none => exact k
    | some s' => exact key s' h
  · exact k

theorem app_ints {h : PH} {p : Option Addr} {m c : Nat} {l : List Int} {S : List Nat} {sb : Nat} {x : Int} {K : Option Addr → Nat → Nat → PH → Prop} (i : IntsIn h p m c l S) (hs : h sb = some (.cells #[.int .i64 x] 3 (0, 0))) (hl : l.length ≤ 1000000)
    (k : ∀ p' n' c' h' S', IntsIn h' p' n' c' (x :: l) S' → Ext [sb] h h' → (∀ b ∈ S', b = sb ∨ h b = none) → K p' n' c' h') : xApp h 3 1 8 (some ⟨sb, 0, none⟩) 1 1 (.slice p m c) K := by
  have src : srcCells h 1 (.slice p m c) (l.map (Value.int .i64)) m := by
    obtain ⟨rfl, ⟨rfl, rfl, rfl, rfl⟩ | ⟨b, junk, rfl, hb, hc, hj, rfl⟩⟩ := i
    · exact ⟨rfl, rfl, rfl⟩
    · refine ⟨rfl, by simp, fun j hj => ?_⟩
      have hj : j < l.length := by omega
      rw [add_mk, cellAt hb, Nat.zero_add, intArr_get hj]
      simp [hj]
  have hm : m = l.length := i.1
  refine ⟨_, m, src, by simp [oneCell], by omega, [.int .i64 x], [], rfl, hs, rfl, rfl, by decide, fun b cap' junk nb hc hj => ?_⟩
  refine k _ _ _ _ [b] ⟨by simp; omega, .inr ⟨b, junk, rfl, ?_, by simp; omega, by simp at hj ⊢; omega, rfl⟩⟩ ?_ ?_
  · rw [PH.upd_same]
    simp [intArr]
  · intro y O hy hm'
    have h1 : y ≠ sb := fun e => hm' (by simp [e])
    by_cases e : y = b
    · subst e
      rw [del_at, if_neg h1] at nb
      rw [nb] at hy; cases hy
    · rw [PH.upd_ne _ _ e, del_at, if_neg h1]; exact hy
  · intro y hy
    simp only [List.mem_singleton] at hy
    subst hy
    rw [del_at] at nb
    split at nb
    · rename_i e; exact .inl e
    · exact .inr nb

theorem findSome_range {β : Type} (f : Nat → Option β) (n i : Nat) (hi : i < n) (r : β) (h : f i = some r) (pre : ∀ k, k < i → f k = none) : (List.range n).findSome? f = some r := by
  obtain ⟨m, rfl⟩ : ∃ m, n = i + (m + 1) := ⟨n - i - 1, by omega⟩
  rw [List.range_add, List.findSome?_append]
  have : (List.range i).findSome? f = none := by
    rw [List.findSome?_eq_none_iff]
    intro k hk
    exact pre k (by simpa using hk)
  rw [this, Option.none_or, List.range_succ_eq_map, List.map_cons, List.findSome?_cons, Nat.add_zero, h]

/-- How many of the first calls are not done. -/
def cnt (done i : Nat) : Nat := ((List.range i).filter fun k => !done.testBit k).length
theorem cnt_succ (done i : Nat) : cnt done (i + 1) = cnt done i + (if done.testBit i = true then 0 else 1) := by
  unfold cnt
  rw [List.range_succ, List.filter_append, List.length_append]
  cases h : done.testBit i <;> simp [h]
theorem cnt_mono (done i : Nat) : cnt done i ≤ cnt done (i + 1) := by rw [cnt_succ]; omega

theorem dead_le {l : List Cl} {h h' : PH} {T T' : List Nat} {d : Nat} {X : ML} (x : DeadM l h T d X) (e : Ext T h h') (n : ∀ b ∈ T', b ∈ T ∨ h b = none) : DeadM l h' T' d X := by
  obtain ⟨s, r, k, hn, t⟩ := x
  refine ⟨s, r.ext e t, k, hn, fun y hy hm => ?_⟩
  rcases n y hm with h1 | h1
  · exact t y hy h1
  · obtain ⟨O, hO⟩ := r.known y hy
    rw [h1] at hO; cases hO
theorem deadE_le {l : List Cl} {h h' : PH} {T T' : List Nat} {M M' : Nat} {en : MapEntry} {b : Nat} (x : DeadE l h T M en b) (hM : M ≤ M') (e : Ext T h h') (n : ∀ b ∈ T', b ∈ T ∨ h b = none) (same : h' b = h b) : DeadE l h' T' M' en b := by
  obtain ⟨d, xs, p, m, c, k, v, r, hm, t⟩ := x
  exact ⟨d, xs, p, m, c, k, v, r.of (by simpa using same), by omega, fun X hX => dead_le (t X hX) e n⟩

theorem nodup_inj {α : Type} {l : List α} (h : l.Nodup) {i j : Nat} (hi : i < l.length) (hj : j < l.length) (e : l[i] = l[j]) : i = j := by
  have := List.pairwise_iff_getElem.1 h
  rcases Nat.lt_trichotomy i j with h1 | h1 | h1
  · exact absurd e (this i j hi hj h1)
  · exact h1
  · exact absurd e.symm (this j i hj hi h1)
theorem nodup_set {α : Type} {l : List α} (h : l.Nodup) (j : Nat) (b : α) (hb : ∀ i (hi : i < l.length), i ≠ j → b ≠ l[i]) : (l.set j b).Nodup := by
  refine List.pairwise_iff_getElem.2 fun a c ha hc hac => ?_
  simp only [List.length_set] at ha hc
  have base := List.pairwise_iff_getElem.1 h a c ha hc hac
  rw [List.getElem_set, List.getElem_set]
  split
  · rename_i e
    split
    · omega
    · exact hb c hc (by omega)
  · split
    · exact (hb a ha (by omega)).symm
    · exact base

/-- One more that leads nowhere. -/
theorem dead_tail {l : List Cl} {h : PH} {sp db : Nat} {T : List Nat} {M : Nat} {v0 v1 : Value} (es : h sp = some (.cells #[v0, v1, .map (some db)] 165 (0, 0))) (x : DeadAt l h db T M) (hM : M ≤ 1000000000000) (sT : sp ∉ T) {X : ML} {d : Nat} (dm : DeadM l h T d X) {K : PH → Prop}
    (k : ∀ h' T', DeadAt l h' db T' (M + 1) → Ext T h h' → (∀ b ∈ T', b ∈ T ∨ h b = none) → K h') :
    xDraw h fun hs => xNn (some ⟨sp, 0, none⟩) fun x77 => oM (hs.cell (x77.add 2)) fun x79 => xNn (some ⟨sp, 0, none⟩) fun x82 => oM (hs.cell (x82.add 2)) fun x84 => xLook Try.prog 167 hs x84 (.int .u64 (d : Int)) fun o => oS (some (Option.getD o (.slice none 0 0))) fun pa pl pc =>
      xNew h (.cells #[.pointer (some ⟨X.m, 0, none⟩)] 23 (0, 0)) fun b88 h19 => PH.le hs h19 ∧ xApp h19 23 1 8 pa pl pc (.slice (some ⟨b88, 0, none⟩) 1 1) fun qa ql qc h20 => PH.le hs h20 ∧ xPut Try.prog 167 h20 x79 (.int .u64 (d : Int)) (.slice qa ql qc) fun h21 => K h21 := by
  obtain ⟨es', cl, bs, e, rfl, nd, hl, ha⟩ := x.ex
  have hk := DeadAt.keys hl ha
  have sdb : sp ≠ db := fun h => sT (by simp [h])
  have sbs : sp ∉ bs := fun h => sT (List.mem_cons_of_mem _ h)
  have ndb : db ∉ bs := (List.nodup_cons.1 nd).1
  have ndbs := (List.nodup_cons.1 nd).2
  refine xDraw_cut bs ?_
  have c1 : (h.cut bs) sp = h sp := PH.cut_at sbs
  have c2 : (h.cut bs) db = h db := PH.cut_at ndb
  simp only [xNn_some, add_mk, cell_mk, upd_at, del_at, if_true, if_false, Option.bind_some, List.getElem?_toArray, List.getElem?_cons_succ, List.getElem?_cons_zero, oI_some, oS_some, oM_some, oB_some, oP_some, oT_some, xIdx_some, Nat.zero_add, Nat.add_zero, Nat.mul_one, c1, es]
  refine .inl ⟨db, es', cl, _, rfl, c2.trans e, law_uint, ⟨_, rfl⟩, hk, ?_⟩
  -- the end, whichever the entry
  have fin : ∀ (xs : List ML) (p : Option Addr) (n c : Nat) (S : List Nat), RowIn ptL 1 23 h p n c xs S → xs.length ≤ M → (∀ b ∈ S, b ∈ bs) → (∀ Y ∈ xs, DeadM l h (db :: bs) d Y) →
      (∀ (h20 : PH) (p' : Option Addr) (n' c' b' : Nat), RowIn ptL 1 23 h20 p' n' c' (xs ++ [X]) [b'] → Ext S h h20 → (b' ∈ S ∨ h b' = none) → K (h20.upd db (mapPut es' cl (.int .u64 (d : Int)) (.slice p' n' c')))) →
      xNew h (.cells #[.pointer (some ⟨X.m, 0, none⟩)] 23 (0, 0)) fun b88 h19 => PH.le (h.cut bs) h19 ∧ xApp h19 23 1 8 p n c (.slice (some ⟨b88, 0, none⟩) 1 1) fun qa ql qc h20 => PH.le (h.cut bs) h20 ∧ xPut Try.prog 167 h20 (some db) (.int .u64 (d : Int)) (.slice qa ql qc) fun h21 => K h21 := by
    intro xs p n c S ri hm hS hd hK
    refine xNew_intro fun b88 h19 l19 n88 e88 => ?_
    refine ⟨PH.le_trans (PH.cut_le _ _) l19, ?_⟩
    have ri19 := ri.le l19
    refine ri19.app (x := X) ptL_len (by simp [ptL, mp, oneCell]) e88 (by omega) ?_
    intro p' n' c' h20 S' r20 x20 n20
    have xx : Ext S h h20 := fun y O hy hm => x20 y O (l19 y O hy) hm
    have db20 : h20 db = some (.map es' cl) := xx _ _ e fun hm => ndb (hS _ hm)
    refine ⟨PH.cut_ext (xx.mono fun y hy => hS y hy), db, es', cl, _, rfl, db20, law_uint, ⟨_, rfl⟩, hk, ?_⟩
    obtain ⟨b', hb'⟩ : ∃ b', S' = [b'] := by
      obtain ⟨hn, ⟨h0, _⟩ | ⟨b', junk, _, _, _, _, hS'⟩⟩ := r20
      · simp at h0
      · exact ⟨b', hS'⟩
    subst hb'
    refine hK h20 p' n' c' b' r20 xx ?_
    rcases n20 b' (by simp) with h1 | h1
    · exact .inl h1
    · exact .inr (none_of l19 h1)
  have dm' := dm
  cases hf : findE es'.toList (.int .u64 (d : Int)) 0 with
  | none =>
    have hg : mapGet es' (.int .u64 (d : Int)) = none := by unfold mapGet; rw [hf]; rfl
    rw [hg]
    simp only [Option.getD_none, oS_some]
    refine fin [] none 0 0 [] (RowIn.nil _ _) (by simp) (by simp) (by simp) ?_
    intro h20 p' n' c' b' r20 x20 nb'
    have nb : h b' = none := by rcases nb' with h1 | h1; cases h1; exact h1
    have b'db : b' ≠ db := fun h1 => by subst h1; rw [nb] at e; cases e
    have b'bs : b' ∉ bs := fun hm => by obtain ⟨O, hO⟩ := x.known b' (List.mem_cons_of_mem _ hm); rw [nb] at hO; cases hO
    have hp : mapPut es' cl (.int .u64 (d : Int)) (.slice p' n' c') = .map (es'.push { key := .int .u64 (d : Int), val := .slice p' n' c', born := cl }) (cl + 1) := by unfold mapPut; rw [hf]
    rw [hp]
    have xT : Ext (db :: bs) h (h20.upd db (.map (es'.push { key := .int .u64 (d : Int), val := .slice p' n' c', born := cl }) (cl + 1))) := by
      intro y O hy hm
      rw [PH.upd_ne _ _ (fun h1 => hm (by simp [h1]))]
      exact x20 y O hy (by simp)
    have nT : ∀ b ∈ db :: (bs ++ [b']), b ∈ db :: bs ∨ h b = none := by
      intro b hb
      simp only [List.mem_cons, List.mem_append, List.not_mem_nil, or_false] at hb ⊢
      rcases hb with h1 | h1 | h1
      · exact .inl (.inl h1)
      · exact .inl (.inr h1)
      · subst h1; exact .inr nb
    refine k _ (db :: (bs ++ [b'])) ⟨_, _, bs ++ [b'], PH.upd_same _ _ _, rfl, ?_, by simp [hl], ?_⟩ xT nT
    · rw [List.nodup_cons, List.nodup_append]
      exact ⟨by simp [ndb, Ne.symm b'db], ndbs, by simp, fun a ha b hb => by simp at hb; subst hb; exact fun h1 => b'bs (h1 ▸ ha)⟩
    · intro i en b hi hb
      rw [Array.toList_push] at hi
      by_cases hlt : i < bs.length
      · rw [List.getElem?_append_left (by simpa [hl] using hlt)] at hi
        rw [List.getElem?_append_left hlt] at hb
        have hbm : b ∈ bs := List.mem_of_getElem? hb
        obtain ⟨O, hO⟩ := x.known b (List.mem_cons_of_mem _ hbm)
        refine deadE_le (ha i en b hi hb) (by omega) xT nT ?_
        rw [PH.upd_ne _ _ (fun h1 => ndb (by rw [← h1]; exact hbm)), x20 b O hO (by simp), hO]
      · have hlen := (List.getElem?_eq_some_iff.1 hb).1
        simp at hlen
        have hi' : i = bs.length := by omega
        subst hi'
        rw [List.getElem?_append_right (by simp [hl])] at hi
        rw [List.getElem?_append_right (Nat.le_refl _)] at hb
        simp [hl] at hi hb
        subst hi; subst hb
        refine ⟨d, [X], p', n', c', rfl, rfl, r20.of (by simpa using PH.upd_ne _ _ b'db), by simp, fun Y hY => ?_⟩
        simp only [List.mem_singleton] at hY
        subst hY
        exact dead_le dm xT nT
  | some r =>
    obtain ⟨j, v⟩ := r
    obtain ⟨_, en, h1, h2, h3⟩ := findE_spec hk hf
    simp only [Nat.sub_zero] at h1
    have hj : j < bs.length := by
      have := (List.getElem?_eq_some_iff.1 h1).1
      simpa [hl] using this
    obtain ⟨d', xs, p, n, c, hkk, hv, ri, hm, t⟩ := ha j en bs[j] h1 (List.getElem?_eq_getElem hj)
    rw [hkk] at h2
    have : d' = d := by
      simp only [Value.int.injEq, true_and] at h2
      exact_mod_cast h2
    subst this
    have hg : mapGet es' (.int .u64 (d' : Int)) = some (.slice p n c) := by unfold mapGet; rw [hf]; simp only [Option.map_some]; rw [← h3, hv]
    rw [hg]
    simp only [Option.getD_some, oS_some]
    refine fin xs p n c [bs[j]] ri hm (by simp) t ?_
    intro h20 p' n' c' b' r20 x20 nb'
    have hp : mapPut es' cl (.int .u64 (d' : Int)) (.slice p' n' c') = .map (es'.modify j fun e => { e with key := .int .u64 (d' : Int), val := .slice p' n' c' }) cl := by unfold mapPut; rw [hf]
    rw [hp]
    have b'db : b' ≠ db := by
      rcases nb' with h1 | h1
      · simp at h1; subst h1; exact fun h1 => ndb (h1 ▸ List.getElem_mem hj)
      · intro h2; subst h2; rw [h1] at e; cases e
    have b'bs : ∀ i (hi : i < bs.length), i ≠ j → b' ≠ bs[i] := by
      intro i hi hij
      rcases nb' with h1 | h1
      · simp at h1; subst h1
        intro h2
        exact hij (nodup_inj ndbs _ _ h2).symm
      · intro h2
        obtain ⟨O, hO⟩ := x.known bs[i] (List.mem_cons_of_mem _ (List.getElem_mem hi))
        rw [← h2, h1] at hO; cases hO
    have xT : Ext (db :: bs) h (h20.upd db (.map (es'.modify j fun e => { e with key := .int .u64 (d' : Int), val := .slice p' n' c' }) cl)) := by
      intro y O hy hm
      rw [PH.upd_ne _ _ (fun h1 => hm (by simp [h1]))]
      exact x20 y O hy (fun h1 => hm (by simp at h1; subst h1; exact List.mem_cons_of_mem _ (List.getElem_mem hj)))
    have nT : ∀ b ∈ db :: bs.set j b', b ∈ db :: bs ∨ h b = none := by
      intro b hb
      rcases List.mem_cons.1 hb with h1 | h1
      · exact .inl (by simp [h1])
      · rcases List.mem_or_eq_of_mem_set h1 with h1 | h1
        · exact .inl (List.mem_cons_of_mem _ h1)
        · subst h1
          rcases nb' with h1 | h1
          · simp at h1; subst h1; exact .inl (List.mem_cons_of_mem _ (List.getElem_mem hj))
          · exact .inr h1
    refine k _ (db :: bs.set j b') ⟨_, _, bs.set j b', PH.upd_same _ _ _, rfl, ?_, by simp [hl], ?_⟩ xT nT
    · rw [List.nodup_cons]
      refine ⟨fun hm => ?_, ?_⟩
      · rcases List.mem_or_eq_of_mem_set hm with h1 | h1
        · exact ndb h1
        · exact b'db h1.symm
      · exact nodup_set ndbs j b' b'bs
    · intro i en' b hi hb
      rw [Array.toList_modify, List.getElem?_modify] at hi
      rw [List.getElem?_set] at hb
      by_cases e1 : j = i
      · subst e1
        simp only [if_true, hj, Option.some.injEq] at hb
        subst hb
        simp only [if_true, h1, Option.map_eq_map, Option.map_some, Option.some.injEq] at hi
        subst hi
        refine ⟨d', xs ++ [X], p', n', c', rfl, rfl, r20.of (by simpa using PH.upd_ne _ _ b'db), by simp; omega, fun Y hY => ?_⟩
        rcases List.mem_append.1 hY with hY | hY
        · exact dead_le (t Y hY) xT nT
        · simp only [List.mem_singleton] at hY
          subst hY
          exact dead_le dm xT nT
      · simp only [e1, if_false] at hb hi
        have hi' : es'.toList[i]? = some en' := by simpa using hi
        have hbl := (List.getElem?_eq_some_iff.1 hb).1
        have hbe := (List.getElem?_eq_some_iff.1 hb).2
        have hbm : b ∈ bs := List.mem_of_getElem? hb
        obtain ⟨O, hO⟩ := x.known b (List.mem_cons_of_mem _ hbm)
        refine deadE_le (ha i en' b hi' hb) (by omega) xT nT ?_
        rw [PH.upd_ne _ _ (fun h1 => ndb (by rw [← h1]; exact hbm)), hO]
        refine x20 b O hO (fun h1 => ?_)
        simp only [List.mem_singleton] at h1
        rw [← hbe] at h1
        exact e1 (nodup_inj ndbs _ _ h1).symm

end Go.Ck
