/-
  The document's model goes with the program's: who waits, leaves, and is told.
-/
import Derived.Test.YtnnedfhpicdacaaRows
import Derived.Test.YtnnedfhpicdacaaJG2
import Derived.Test.YtnnedfhpicdacaaJG3
import Derived.Test.YtnnedfhpicdacaaJG5
import Derived.Test.YtnnedfhpicdacaaJG7

set_option linter.unusedSimpArgs false
set_option linter.unusedVariables false
namespace Go.Rf
open Go Go.Md Go.Sx Go.Proofs

theorem sim_place {R : Rm} {s : Ms} {o t : Int} {p : Pc} {w' : Pl Int} {l' : Pl (Int × Int)} (S : Sim R s) (ho : s.isObj o = true) (ht : s.isThread t = true) (ok : ({ s with waits := w', left := l' } : Ms).Ok)
    (gw : ∀ p ∈ w', s.isObj p.1 = true ∧ s.isThread p.2.1 = true ∧ 1 ≤ p.2.2 ∧ p.2.2 ≤ s.most) (gl : ∀ p ∈ l', s.isObj p.1 = true ∧ s.isThread p.2.1 = true ∧ 1 ≤ p.2.2.1 ∧ p.2.2.1 ≤ s.most)
    (wf : ∀ a b, ¬(a = o ∧ b = t) → w'.find a b = s.waits.find a b) (lf : ∀ a b, ¬(a = o ∧ b = t) → l'.find a b = s.left.find a b) (ex : w'.find o t ≠ none → l'.find o t = none)
    (pw : p.waits = (w'.find o t).getD 0) (pl : p.left = ((l'.find o t).map (·.1)).getD 0) (py : ∀ l, l'.find o t = some l → p.why = l.2) : Sim (R.setAt o t p) { s with waits := w', left := l' } := by
  obtain ⟨o0, o1, o8⟩ := obj_lt S.ok ho
  obtain ⟨t0, t1, t8⟩ := thr_lt S.ok ht
  have aset := fun x y (hx : 0 ≤ x) (hy : 0 ≤ y) (y8 : y.toNat < 8) => at_set (p := p) S.wf o0 o8 t0 t8 hx hy y8
  refine ⟨S.wf.setAt _ _ _, ok, ⟨S.g.most, S.g.own, gw, gl, ?_⟩, S.n, S.m, S.most, S.ow, S.ct, S.hs, S.fl, ?_, ?_, ?_⟩
  · intro a b h
    by_cases e : a = o ∧ b = t
    · obtain ⟨rfl, rfl⟩ := e; exact ex h
    · show l'.find a b = none
      rw [lf a b e]
      exact S.g.ex a b (by rw [← wf a b e]; exact h)
  · intro a b ha hb
    obtain ⟨a0, _, _⟩ := obj_lt S.ok ha
    obtain ⟨b0, _, b8⟩ := thr_lt S.ok hb
    rw [aset a b a0 b0 b8]
    by_cases e : a = o ∧ b = t
    · rw [if_pos e, e.1, e.2]; exact pw
    · rw [if_neg e, S.wt a b ha hb]
      show _ = (w'.find a b).getD 0
      rw [wf a b e]
  · intro a b ha hb
    obtain ⟨a0, _, _⟩ := obj_lt S.ok ha
    obtain ⟨b0, _, b8⟩ := thr_lt S.ok hb
    rw [aset a b a0 b0 b8]
    by_cases e : a = o ∧ b = t
    · rw [if_pos e, e.1, e.2]; exact pl
    · rw [if_neg e, S.lf a b ha hb]
      show _ = ((l'.find a b).map (·.1)).getD 0
      rw [lf a b e]
  · intro a b l ha hb hl
    obtain ⟨a0, _, _⟩ := obj_lt S.ok ha
    obtain ⟨b0, _, b8⟩ := thr_lt S.ok hb
    rw [aset a b a0 b0 b8]
    by_cases e : a = o ∧ b = t
    · rw [if_pos e]
      exact py l (by rw [← e.1, ← e.2]; exact hl)
    · rw [if_neg e]
      exact S.wy a b l ha hb (by rw [← lf a b e]; exact hl)

section
variable {R : Rm} {s : Ms} {e : Ev}

theorem goes_leave (S : Sim R s) {o t w : Int} (ho : s.isObj o = true) (ht : s.isThread t = true) (hw : w = 0 ∨ w = 12 ∨ w = 13) : Goes (if (R.at' o t).waits = 0 then (R, false) else (R.setAt o t ⟨0, (R.at' o t).waits, w⟩, true)) (s.leave o t w) := by
  have wp := (wt_pos S ho ht).2
  have hwt := S.wt o t ho ht
  cases hf : s.waits.find o t with
  | none =>
    rw [hf] at wp
    have h0 : (R.at' o t).waits = 0 := by simpa using wp
    rw [if_pos h0]
    exact .no (by unfold Ms.leave; rw [hf]) rfl
  | some n =>
    rw [hf] at wp hwt
    have h0 : ¬(R.at' o t).waits = 0 := by simpa using wp
    rw [if_neg h0]
    have hlv : s.leave o t w = some { s with waits := s.waits.del o t, left := s.left.put o t (n, w) } := by unfold Ms.leave; rw [hf]
    have hok := ok_leave S.ok hw hlv
    have hwv : (R.at' o t).waits = n := by rw [hwt]; rfl
    have hn : 1 ≤ n ∧ n ≤ s.most := find_good (P := fun n => 1 ≤ n ∧ n ≤ s.most) (fun p hp => (S.g.wts p hp).2.2) hf
    refine .inl ⟨_, hlv, rfl, sim_place S ho ht hok (fun p hp => S.g.wts p ((Pl.del_sub _ _ _).subset hp)) ?_ ?_ ?_ ?_ ?_ ?_ ?_⟩
    · intro p hp
      rcases Pl.mem_put hp with h | h
      · exact S.g.lfs p h
      · subst h; exact ⟨ho, ht, hn.1, hn.2⟩
    · intro a b hne; rw [find_del S.ok.once.w, if_neg hne]
    · intro a b hne; rw [find_put, if_neg hne]
    · intro h; rw [find_del S.ok.once.w, if_pos ⟨rfl, rfl⟩] at h; exact absurd rfl h
    · rw [find_del S.ok.once.w, if_pos ⟨rfl, rfl⟩]; rfl
    · rw [find_put, if_pos ⟨rfl, rfl⟩]; exact hwv
    · intro l hl
      rw [find_put, if_pos ⟨rfl, rfl⟩] at hl
      simp only [Option.some.injEq] at hl
      rw [← hl]

theorem goes_begin (S : Sim R s) (ho : s.isObj e.obj = true) (ht : s.isThread e.thread = true) (hk : e.kind = 4) (ng : s.gone e.thread = false) : Goes (R.wait e) (s.begin e) := by
  obtain ⟨t0, t1, t8⟩ := thr_lt S.ok ht
  obtain ⟨o0, o1, o8⟩ := obj_lt S.ok ho
  obtain ⟨g1, g2, g3, g4, g5⟩ := S.g.own _ ho
  unfold Rm.wait Ms.begin
  rw [if_pos hk, owns_eq S ho ht]
  by_cases h9 : e.err = 9
  · rw [if_pos h9, if_pos h9]
    exact .look S (by cases s.owns e <;> rfl)
  rw [if_neg h9, if_neg h9]
  by_cases h12 : e.err = 12
  · rw [if_pos h12, if_neg (show ¬e.err = 11 by omega), if_pos h12, S.fl _ ht]
    by_cases hb : (s.owns e && s.flag e.thread) = true
    · rw [if_pos hb, if_pos hb]
      exact .inl ⟨_, rfl, rfl, sim_flag S ht⟩
    · rw [if_neg hb, if_neg hb]; exact .no rfl rfl
  rw [if_neg h12]
  by_cases h11 : e.err = 11
  · rw [if_pos h11, if_pos h11]
    exact .look S (by cases s.owns e <;> rfl)
  rw [if_neg h11, if_neg h11, if_neg h12]
  by_cases h0 : e.err = 0
  · rw [if_pos h0, if_pos h0]
    by_cases hown : s.owns e = true
    · rw [if_pos hown, if_pos hown]
      have how : (s.mon e.obj).owner = e.thread := by simpa [Ms.owns] using hown
      have hne : (s.mon e.obj).owner ≠ -1 := by omega
      have hcnt := g4 hne
      -- nobody who waits, or left
      have noneL : s.left.find e.obj e.thread = none := by
        unfold Ms.gone at ng
        rw [List.any_eq_false] at ng
        have := ng e.obj.toNat (by simpa using o1)
        have ec : ((e.obj.toNat : Nat) : Int) = e.obj := by omega
        rw [ec] at this
        cases hl : s.left.find e.obj e.thread with
        | none => rfl
        | some l => rw [hl] at this; simp at this
      have ok1 : ({ s with waits := s.waits.put e.obj e.thread (s.mon e.obj).count, left := s.left } : Ms).Ok :=
        ⟨⟨Pl.once_put S.ok.once.w _ _ _, S.ok.once.l⟩, S.ok.why, S.ok.nm, S.ok.nf, inRng_put S.ok.rw ⟨o0, by have := S.ok.nm; omega⟩ ⟨t0, by omega⟩, S.ok.rl⟩
      have S1 := sim_place (p := { R.at' e.obj e.thread with waits := R.ct e.obj }) S ho ht ok1 (fun p hp => by
          rcases Pl.mem_put hp with h | h
          · exact S.g.wts p h
          · subst h; exact ⟨ho, ht, hcnt.1, hcnt.2⟩) S.g.lfs (fun a b hne => by rw [find_put, if_neg hne]) (fun a b _ => rfl) (fun _ => noneL)
        (by rw [find_put, if_pos ⟨rfl, rfl⟩]; exact S.ct _ ho) (S.lf _ _ ho ht) (fun l hl => S.wy _ _ l ho ht hl)
      refine .inl ⟨_, rfl, rfl, ?_⟩
      refine sim_mon (o := e.obj) (m' := ⟨-1, 0, (s.mon e.obj).hash⟩) S1 (ok_mon S1 _ _) ho ((S1.wf.setOw _ _).setCt _ _) rfl rfl rfl rfl rfl ?_ ?_ ?_ ⟨by simp, by simp; omega, fun _ => rfl, fun h => absurd rfl h, g5⟩
      · intro x hx
        show (Rm.setOw _ _ _).ow x = _
        rw [ow_set S1.wf o0 o8 hx]; rfl
      · intro x hx; exact ct_set (S1.wf.setOw _ _) o0 o8 hx
      · intro x hx
        show R.hs x = if x = e.obj then (s.mon e.obj).hash else R.hs x
        by_cases ex : x = e.obj
        · rw [if_pos ex, ex, S.hs _ ho]
        · rw [if_neg ex]
    · rw [if_neg hown, if_neg hown]; exact .no rfl rfl
  · rw [if_neg h0, if_neg h0]; exact .no rfl rfl

theorem goes_end (S : Sim R s) (ho : s.isObj e.obj = true) (ht : s.isThread e.thread = true) (hk : e.kind = 6) : Goes (R.wait e) (s.fin e) := by
  obtain ⟨t0, t1, t8⟩ := thr_lt S.ok ht
  obtain ⟨o0, o1, o8⟩ := obj_lt S.ok ho
  obtain ⟨g1, g2, g3, g4, g5⟩ := S.g.own _ ho
  have hm := S.g.most
  unfold Rm.wait
  rw [if_neg (by omega), if_neg (by omega), if_pos hk]
  cases hf : s.left.find e.obj e.thread with
  | none =>
    have hn : s.fin e = none := by unfold Ms.fin; rw [hf]
    have := (lf_pos S ho ht).2
    rw [hf] at this
    refine .no hn ?_
    split
    · rw [this]; simp
    · rfl
  | some l =>
    have hl := S.lf _ _ ho ht
    have hy := S.wy _ _ l ho ht hf
    rw [hf] at hl
    have hl : (R.at' e.obj e.thread).left = l.1 := by rw [hl]; rfl
    have hlv : 1 ≤ l.1 ∧ l.1 ≤ s.most := find_good (P := fun n : Int × Int => 1 ≤ n.1 ∧ n.1 ≤ s.most) (fun p hp => (S.g.lfs p hp).2.2) hf
    have hwy : l.2 = 0 ∨ l.2 = 12 ∨ l.2 = 13 := by
      obtain ⟨p, hp, he⟩ := Pl.find_in hf
      exact he ▸ S.ok.why p hp
    have how : (R.ow e.obj != 0) = ((s.mon e.obj).owner != -1) := by
      rw [S.ow _ ho, Bool.eq_iff_iff]; simp only [bne_iff_ne, ne_eq]; omega
    have hl0 : ((R.at' e.obj e.thread).left == 0) = false := by rw [hl]; simp; omega
    rw [how, hl0, hy, hl, Bool.or_false]
    unfold Ms.fin
    rw [hf]
    simp only []
    by_cases hc : ((s.mon e.obj).owner != -1 || l.2 != e.err) = true
    · rw [if_pos hc, if_pos hc]
      refine .no rfl ?_
      split <;> rfl
    · rw [if_neg hc, if_neg hc]
      have hc' : (s.mon e.obj).owner = -1 ∧ l.2 = e.err := by
        simp only [Bool.or_eq_true, bne_iff_ne, ne_eq, not_or, Decidable.not_not] at hc; exact hc
      have herr : e.err = 0 ∨ e.err = 13 ∨ e.err = 12 := by rw [← hc'.2]; omega
      rw [if_pos herr]
      have noneW : s.waits.find e.obj e.thread = none := by
        cases hw : s.waits.find e.obj e.thread with
        | none => rfl
        | some n =>
          have := S.g.ex e.obj e.thread (by rw [hw]; simp)
          rw [hf] at this; cases this
      have ok1 : ({ s with waits := s.waits, left := s.left.del e.obj e.thread } : Ms).Ok :=
        ⟨⟨S.ok.once.w, Pl.once_del S.ok.once.l _ _⟩, fun q hq => S.ok.why q ((Pl.del_sub _ _ _).subset hq), S.ok.nm, S.ok.nf, S.ok.rw, inRng_del S.ok.rl⟩
      have S1 := sim_place (p := pc0) S ho ht ok1 S.g.wts (fun p hp => S.g.lfs p ((Pl.del_sub _ _ _).subset hp)) (fun a b _ => rfl) (fun a b hne => by rw [find_del S.ok.once.l, if_neg hne]) (fun h => absurd noneW h)
        (by rw [noneW]; rfl) (by rw [find_del S.ok.once.l, if_pos ⟨rfl, rfl⟩]; rfl) (fun l hl => by rw [find_del S.ok.once.l, if_pos ⟨rfl, rfl⟩] at hl; cases hl)
      have S2 : Sim (((R.setAt e.obj e.thread pc0).setOw e.obj (Rm.w1 e.thread)).setCt e.obj l.1) ({ (s.setMon e.obj { s.mon e.obj with owner := e.thread, count := l.1 }) with left := s.left.del e.obj e.thread }) := by
        refine sim_mon (o := e.obj) (m' := { s.mon e.obj with owner := e.thread, count := l.1 }) S1 (ok_mon S1 _ _) ho ((S1.wf.setOw _ _).setCt _ _) rfl rfl rfl rfl rfl ?_ ?_ ?_ ⟨by show -1 ≤ e.thread; omega, by show e.thread < _; show e.thread < (s.flags.length : Int); omega, fun h => by have h : e.thread = -1 := h; omega, fun _ => hlv, g5⟩
        · intro x hx
          show (Rm.setOw _ _ _).ow x = _
          rw [ow_set S1.wf o0 o8 hx, w1_eq t0 t8]
        · intro x hx; exact ct_set (S1.wf.setOw _ _) o0 o8 hx
        · intro x hx
          show R.hs x = if x = e.obj then (s.mon e.obj).hash else R.hs x
          by_cases ex : x = e.obj
          · rw [if_pos ex, ex, S.hs _ ho]
          · rw [if_neg ex]
      refine .inl ⟨_, rfl, rfl, ?_⟩
      by_cases h12 : e.err = 12
      · simp only [h12, if_true]
        exact sim_flag S2 ht
      · simp only [h12, if_false]
        exact S2

theorem goes_tell (S : Sim R s) (ho : s.isObj e.obj = true) (ht : s.isThread e.thread = true) (hk : e.kind = 7 ∨ e.kind = 8 ∨ e.kind = 9) : Goes (R.tell e) (s.tell e) := by
  unfold Rm.tell Ms.tell
  rw [owns_eq S ho ht, is_eq S, none_eq S ho]
  by_cases h7 : e.kind = 7
  · rw [if_pos h7, if_pos h7]
    by_cases hb : (e.err == 0 && s.owns e) = true
    · rw [if_pos hb]
      have hb' : (e.err != 0 || !s.owns e) = false := by
        revert hb; cases h1 : (e.err == 0) <;> cases s.owns e <;> simp [bne, h1]
      rw [hb', Bool.false_or]
      cases hth : s.isThread e.arg with
      | true =>
        have := goes_leave S (w := 0) ho hth (.inl rfl)
        have e1 : ((R.at' e.obj e.arg).waits == 0) = decide ((R.at' e.obj e.arg).waits = 0) := by rw [Bool.eq_iff_iff]; simp
        simpa [e1] using this
      | false =>
        refine .no ?_ (by simp)
        unfold Ms.leave
        cases hf : s.waits.find e.obj e.arg with
        | none => rfl
        | some n =>
          obtain ⟨p, hp, _, e2⟩ := Pl.find_key hf
          have := (S.g.wts p hp).2.1
          rw [e2, hth] at this; cases this
    · rw [if_neg hb]
      refine .no rfl ?_
      have hb' : (e.err != 0 || !s.owns e) = true := by
        revert hb; cases h1 : (e.err == 0) <;> cases s.owns e <;> simp [bne, h1]
      simp [hb']
  rw [if_neg h7, if_neg h7]
  by_cases h9 : e.err = 9
  · rw [if_pos h9]
    rcases hk with h | h | h
    · exact absurd h h7
    · rw [if_pos ⟨h, h9⟩]
      exact .look S (by have : (e.kind == 9) = false := by simp [h]
                        simp [this, h])
    · rw [if_neg (by omega), if_neg (by omega), if_pos ⟨h, h9⟩]
      exact .look S (by have : (e.kind == 8) = false := by simp [h]
                        simp [this, h])
  rw [if_neg h9, if_neg (by omega)]
  by_cases h0 : e.err = 0
  · have h0' : (e.err != 0) = false := by simp [h0]
    rw [h0', Bool.false_or]
    rcases hk with h | h | h
    · exact absurd h h7
    · rw [if_pos ⟨h, h0⟩]
      refine .look S ?_
      rw [if_neg (show ¬e.kind = 9 by omega)]
      cases s.owns e <;> simp
    · rw [if_neg (by omega), if_neg (by omega), if_pos ⟨h, h0⟩]
      refine .look S ?_
      rw [if_pos h]
      cases s.owns e <;> simp
  · rw [if_neg (by omega), if_neg (by omega), if_neg (by omega), if_pos (by simp [h0])]
    exact .no rfl rfl

theorem goes_ask (S : Sim R s) (ho : s.isObj e.obj = true) (ht : s.isThread e.thread = true) (hk : e.kind = 10 ∨ e.kind = 11 ∨ e.kind = 12) :
    Goes (R.ask e) (if e.kind = 10 then s.hash e else if e.kind = 11 then s.holds e else if (e.err != 0 || !s.isThread e.arg) = true then none else some (s.setFlag e.arg true)) := by
  obtain ⟨o0, o1, o8⟩ := obj_lt S.ok ho
  obtain ⟨g1, g2, g3, g4, g5⟩ := S.g.own _ ho
  have how : (R.ow e.obj != 0) = ((s.mon e.obj).owner != -1) := by
    rw [S.ow _ ho, Bool.eq_iff_iff]; simp only [bne_iff_ne, ne_eq]; omega
  unfold Rm.ask
  rw [how, owns_eq S ho ht, is_eq S, S.hs _ ho]
  by_cases h10 : e.kind = 10
  · have rhs : (if e.kind = 10 then s.hash e else if e.kind = 11 then s.holds e else if (e.err != 0 || !s.isThread e.arg) = true then none else some (s.setFlag e.arg true)) = s.hash e := if_pos h10
    rw [rhs]
    unfold Ms.hash
    by_cases h11 : e.err = 11
    · rw [if_pos ⟨h10, h11⟩, if_pos h11]
      exact .look S (by rw [Bool.and_comm])
    rw [if_neg (by omega), if_neg h11]
    by_cases h0 : e.err = 0
    · rw [if_neg (by omega), if_pos h10]
      have h0' : (e.err != 0) = false := by simp [h0]
      rw [h0', Bool.false_or]
      by_cases rng : 1 ≤ e.arg ∧ e.arg ≤ 2147483647
      · have r1 : (!(decide (1 ≤ e.arg) && decide (e.arg ≤ 2147483647))) = false := by simp [rng.1, rng.2]
        rw [r1, Bool.false_or]
        by_cases hz : (s.mon e.obj).hash = 0
        · have c1 : ((s.mon e.obj).hash == 0 && decide (e.arg ≥ 1) && decide (e.arg ≤ 2147483647)) = true := by simp [hz]; omega
          rw [c1]
          simp only [if_true]
          have hv : (R.setHs e.obj e.arg).hs e.obj = e.arg := by rw [hs_set S.wf o0 o8 o0, if_pos rfl]
          have c2 : ((s.mon e.obj).hash != 0 && (s.mon e.obj).hash != e.arg) = false := by simp [hz]
          rw [hv, if_neg (by rw [c2]; simp)]
          refine .inl ⟨_, rfl, by simp; omega, ?_⟩
          refine sim_mon S (ok_mon S _ _) ho (S.wf.setHs _ _) rfl rfl rfl rfl rfl ?_ ?_ ?_ ⟨g1, g2, g3, g4, .inr rng⟩
          · intro x hx
            show R.ow x = if x = e.obj then (s.mon e.obj).owner + 1 else R.ow x
            by_cases ex : x = e.obj
            · rw [if_pos ex, ex, S.ow _ ho]
            · rw [if_neg ex]
          · intro x hx
            show R.ct x = if x = e.obj then (s.mon e.obj).count else R.ct x
            by_cases ex : x = e.obj
            · rw [if_pos ex, ex, S.ct _ ho]
            · rw [if_neg ex]
          · intro x hx; exact hs_set S.wf o0 o8 hx
        · have c1 : ((s.mon e.obj).hash == 0 && decide (e.arg ≥ 1) && decide (e.arg ≤ 2147483647)) = false := by simp [hz]
          rw [c1]
          simp only [Bool.false_eq_true, if_false, S.hs _ ho]
          by_cases he : (s.mon e.obj).hash = e.arg
          · have c2 : ((s.mon e.obj).hash != 0 && (s.mon e.obj).hash != e.arg) = false := by simp [he]
            rw [if_neg (by rw [c2]; simp)]
            have same : s.setMon e.obj { s.mon e.obj with hash := e.arg } = s := by
              rw [← he]
              unfold Ms.setMon
              have : s.mons.set e.obj.toNat (s.mon e.obj) = s.mons := by
                unfold Ms.mon
                rw [List.getD_eq_getElem?_getD, List.getElem?_eq_getElem o1]
                simp
              show { s with mons := s.mons.set e.obj.toNat (s.mon e.obj) } = s
              rw [this]
            rw [same]
            exact .inl ⟨s, rfl, by simp [he]; omega, S⟩
          · have c2 : ((s.mon e.obj).hash != 0 && (s.mon e.obj).hash != e.arg) = true := by simp [hz, he]
            rw [if_pos c2]
            exact .no rfl (by simp [he])
      · have r1 : (!(decide (1 ≤ e.arg) && decide (e.arg ≤ 2147483647))) = true := by
          simp only [Bool.not_eq_true', Bool.and_eq_false_iff, decide_eq_false_iff_not]; omega
        rw [r1, Bool.true_or, if_pos rfl]
        have c1 : ((s.mon e.obj).hash == 0 && decide (e.arg ≥ 1) && decide (e.arg ≤ 2147483647)) = false := by
          cases hb : ((s.mon e.obj).hash == 0) <;> simp; omega
        rw [c1]
        simp only [Bool.false_eq_true, if_false, S.hs _ ho]
        refine .no rfl ?_
        have : ((s.mon e.obj).hash != 0 && (s.mon e.obj).hash == e.arg) = false := by
          rcases g5 with g5 | g5
          · simp [g5]
          · have : (s.mon e.obj).hash ≠ e.arg := by omega
            simp [this]
        exact this
    · rw [if_pos h0, if_pos (by simp [h0])]
      exact .no rfl rfl
  have rhs : (if e.kind = 10 then s.hash e else if e.kind = 11 then s.holds e else if (e.err != 0 || !s.isThread e.arg) = true then none else some (s.setFlag e.arg true)) = (if e.kind = 11 then s.holds e else if (e.err != 0 || !s.isThread e.arg) = true then none else some (s.setFlag e.arg true)) := if_neg h10
  rw [rhs, if_neg (show ¬(e.kind = 10 ∧ e.err = 11) from fun h => h10 h.1)]
  by_cases h0 : e.err = 0
  · rw [if_neg (by omega), if_neg h10]
    by_cases h11 : e.kind = 11
    · rw [if_pos h11, if_pos h11]
      refine .look S ?_
      unfold Ms.holds
      have h0' : (e.err == 0) = true := by simp [h0]
      rw [h0', Bool.true_and]
      cases s.owns e <;> simp
    · rw [if_neg h11, if_neg h11]
      have h0' : (e.err != 0) = false := by simp [h0]
      rw [h0', Bool.false_or]
      cases hth : s.isThread e.arg with
      | true =>
        simp only [if_true, Bool.not_true, Bool.false_eq_true, if_false]
        exact .inl ⟨_, rfl, rfl, sim_flag S hth⟩
      | false =>
        simp only [Bool.false_eq_true, if_false, Bool.not_false, if_true]
        exact .no rfl rfl
  · rw [if_pos h0]
    refine .no ?_ rfl
    split
    · unfold Ms.holds
      have : (e.err == 0) = false := by simp [h0]
      simp [this]
    · rw [if_pos (by simp [h0])]

end
end Go.Rf

/-
  The document's model goes with the program's: a transition, and the new one.
-/
set_option linter.unusedSimpArgs false
set_option linter.unusedVariables false
namespace Go.Rf
open Go Go.Md Go.Sx Go.Proofs

section
variable {R : Rm} {s : Ms} {e : Ev}

theorem goes_wait (S : Sim R s) (ho : s.isObj e.obj = true) (ht : s.isThread e.thread = true) (hk : e.kind = 4 ∨ e.kind = 5 ∨ e.kind = 6) (ng : e.kind = 4 → s.gone e.thread = false) :
    Goes ((R.wait e).1, (R.wait e).2 && e.arg == 0) (s.apply e) := by
  have key : Goes (R.wait e) (if e.kind = 4 then s.begin e else if e.kind = 5 then (if (e.err == 13 || e.err == 12 && s.flag e.thread) = true then s.leave e.obj e.thread e.err else none) else s.fin e) := by
    rcases hk with hk | hk | hk
    · rw [if_pos hk]; exact goes_begin S ho ht hk (ng hk)
    · have n4 : ¬e.kind = 4 := by omega
      rw [if_neg n4, if_pos hk]
      unfold Rm.wait
      rw [if_neg n4, if_pos hk, S.fl _ ht]
      by_cases h : e.err = 13 ∨ e.err = 12
      · rw [if_pos h]
        have gl := goes_leave S (w := e.err) ho ht (by omega)
        have e1 : ((R.at' e.obj e.thread).waits == 0) = decide ((R.at' e.obj e.thread).waits = 0) := by rw [Bool.eq_iff_iff]; simp
        rcases h with h | h
        · have h12 : (e.err == 12) = false := by simp [h]
          have h13 : (e.err == 13) = true := by simp [h]
          simp only [h12, h13, Bool.false_and, Bool.or_false, e1, decide_eq_true_eq, if_true]
          exact gl
        · have h12 : (e.err == 12) = true := by simp [h]
          have h13 : (e.err == 13) = false := by simp [h]
          cases hfl : s.flag e.thread with
          | true =>
            simp only [h12, h13, Bool.false_or, Bool.true_and, Bool.not_true, Bool.or_false, e1, decide_eq_true_eq, if_true]
            exact gl
          | false =>
            simp only [h12, h13, Bool.false_or, Bool.true_and, Bool.not_false, Bool.or_true, if_true, Bool.false_eq_true, if_false]
            exact .no rfl rfl
      · rw [if_neg h]
        have h12 : (e.err == 12) = false := by simp; omega
        have h13 : (e.err == 13) = false := by simp; omega
        simp only [h12, h13, Bool.false_or, Bool.false_and, Bool.false_eq_true, if_false]
        exact .no rfl rfl
    · have n4 : ¬e.kind = 4 := by omega
      have n5 : ¬e.kind = 5 := by omega
      rw [if_neg n4, if_neg n5]; exact goes_end S ho ht hk
  have ap : s.apply e = if (e.arg == 0) = true then (if e.kind = 4 then s.begin e else if e.kind = 5 then (if (e.err == 13 || e.err == 12 && s.flag e.thread) = true then s.leave e.obj e.thread e.err else none) else s.fin e) else none := by
    unfold Ms.apply
    rw [if_neg (show ¬(e.kind = 1 ∨ e.kind = 2) by omega), if_neg (show ¬e.kind = 3 by omega)]
    rcases hk with hk | hk | hk
    · rw [if_pos hk, if_pos hk]
      by_cases ha : e.arg = 0
      · rw [if_pos ha, if_pos (by simp [ha])]
      · rw [if_neg ha, if_neg (by simp [ha])]
    · have n4 : ¬e.kind = 4 := by omega
      rw [if_neg n4, if_pos hk, if_neg n4, if_pos hk]
      by_cases ha : e.arg = 0
      · have : (e.arg == 0) = true := by simp [ha]
        rw [this, Bool.true_and, if_pos rfl]
      · have : (e.arg == 0) = false := by simp [ha]
        rw [this, Bool.false_and, if_neg (by simp), if_neg (by simp)]
    · have n4 : ¬e.kind = 4 := by omega
      have n5 : ¬e.kind = 5 := by omega
      rw [if_neg n4, if_neg n5, if_pos hk, if_neg n4, if_neg n5]
      by_cases ha : e.arg = 0
      · rw [if_pos ha, if_pos (by simp [ha])]
      · rw [if_neg ha, if_neg (by simp [ha])]
  rw [ap]
  exact key.and _

theorem wait_rng (h : (R.wait e).2 = true) : 0 ≤ e.err ∧ e.err < 100 := by
  by_cases k : e.err = 0 ∨ e.err = 9 ∨ e.err = 11 ∨ e.err = 12 ∨ e.err = 13
  · omega
  · exfalso
    unfold Rm.wait at h
    rw [if_neg (show ¬e.err = 9 by omega), if_neg (show ¬e.err = 12 by omega), if_neg (show ¬e.err = 11 by omega), if_neg (show ¬e.err = 0 by omega), if_neg (show ¬(e.err = 13 ∨ e.err = 12) by omega), if_neg (show ¬(e.err = 0 ∨ e.err = 13 ∨ e.err = 12) by omega)] at h
    by_cases k4 : e.kind = 4
    · rw [if_pos k4] at h; cases h
    rw [if_neg k4] at h
    by_cases k5 : e.kind = 5
    · rw [if_pos k5] at h; cases h
    rw [if_neg k5] at h
    by_cases k6 : e.kind = 6
    · rw [if_pos k6] at h; cases h
    rw [if_neg k6] at h
    cases h

theorem goes_act (S : Sim R s) (hm : s.may e = true) : Goes (R.act e) (s.apply e) := by
  have hm' := hm
  unfold Ms.may at hm'
  simp only [Bool.and_eq_true, Bool.or_eq_true, beq_iff_eq, Bool.not_eq_true'] at hm'
  obtain ⟨⟨ht, ho⟩, hg⟩ := hm'
  by_cases k12 : e.kind = 1 ∨ e.kind = 2
  · have a1 : R.act e = ((R.enter e).1, (R.enter e).2 && e.arg == 0) := by unfold Rm.act; rw [if_pos k12]
    have a2 : s.apply e = if (e.arg == 0) = true then s.enter e else none := by
      unfold Ms.apply; rw [if_pos k12]
      by_cases ha : e.arg = 0
      · rw [if_pos ha, if_pos (by simp [ha])]
      · rw [if_neg ha, if_neg (by simp [ha])]
    rw [a1, a2]
    exact (goes_enter S ho ht).and _
  by_cases k3 : e.kind = 3
  · have a2 : s.apply e = if e.arg = 0 then s.exit e else none := by unfold Ms.apply; rw [if_neg k12, if_pos k3]
    rw [a2]
    exact goes_exit S ho ht k3
  by_cases k4 : e.kind = 4 ∨ e.kind = 5 ∨ e.kind = 6
  · have g := goes_wait S ho ht k4 (fun h => by
      rcases hg with (hg | hg) | hg
      · omega
      · omega
      · exact hg)
    have a1 : R.act e = if (decide (e.err ≥ 0) && decide (e.err < 100)) = true then ((R.wait e).1, (R.wait e).2 && e.arg == 0) else (R, false) := by unfold Rm.act; rw [if_neg k12, if_neg k3, if_pos k4]
    rw [a1]
    by_cases hr : (decide (e.err ≥ 0) && decide (e.err < 100)) = true
    · rw [if_pos hr]; exact g
    · rw [if_neg hr]
      have hw : (R.wait e).2 = false := by
        cases hw : (R.wait e).2 with
        | false => rfl
        | true =>
          have := wait_rng hw
          exact absurd (by simp; omega) hr
      rcases g with ⟨s', h1, h2, _⟩ | ⟨h1, h2⟩
      · simp [hw] at h2
      · exact .no h1 rfl
  by_cases k7 : e.kind = 7 ∨ e.kind = 8 ∨ e.kind = 9
  · have a1 : R.act e = R.tell e := by unfold Rm.act; rw [if_neg k12, if_neg k3, if_neg k4, if_pos k7]
    have a2 : s.apply e = s.tell e := by unfold Ms.apply; rw [if_neg k12, if_neg k3, if_neg (by omega), if_neg (by omega), if_neg (by omega), if_pos k7]
    rw [a1, a2]
    exact goes_tell S ho ht k7
  by_cases k10 : e.kind = 10 ∨ e.kind = 11 ∨ e.kind = 12
  · have a1 : R.act e = R.ask e := by unfold Rm.act; rw [if_neg k12, if_neg k3, if_neg k4, if_neg k7, if_pos k10]
    have g := goes_ask S ho ht k10
    have a2 : s.apply e = (if e.kind = 10 then s.hash e else if e.kind = 11 then s.holds e else if (e.err != 0 || !s.isThread e.arg) = true then none else some (s.setFlag e.arg true)) := by
      unfold Ms.apply; rw [if_neg k12, if_neg k3, if_neg (show ¬e.kind = 4 by omega), if_neg (show ¬e.kind = 5 by omega), if_neg (show ¬e.kind = 6 by omega), if_neg k7]
      by_cases k : e.kind = 10
      · rw [if_pos k, if_pos k]
      rw [if_neg k, if_neg k]
      by_cases k' : e.kind = 11
      · rw [if_pos k', if_pos k']
      rw [if_neg k', if_neg k', if_pos (by omega)]
    rw [a1, a2]
    exact g
  · have a1 : R.act e = (R, false) := by unfold Rm.act; rw [if_neg k12, if_neg k3, if_neg k4, if_neg k7, if_neg k10]
    have a2 : s.apply e = none := by unfold Ms.apply; rw [if_neg k12, if_neg k3, if_neg (by omega), if_neg (by omega), if_neg (by omega), if_neg k7, if_neg (by omega), if_neg (by omega), if_neg (by omega)]
    rw [a1, a2]
    exact .no rfl rfl

theorem sim_apply (S : Sim R s) (e : Ev) : (R.apply e).2 = s.code e ∧ Sim (R.apply e).1 (s.next e) := by
  unfold Rm.apply Ms.next Ms.code Ms.step
  rw [may_eq S]
  cases hm : s.may e with
  | false => simp; exact S
  | true =>
    simp only [Bool.not_true, Bool.false_or, if_true]
    rcases goes_act S hm with ⟨s', h1, h2, h3⟩ | ⟨h1, h2⟩
    · simp [h1, h2]; exact h3
    · simp [h1, h2]; exact S

end

theorem getD_rep {α : Type} (n i : Nat) (x : α) : (List.replicate n x).getD i x = x := by
  rw [List.getD_eq_getElem?_getD, List.getElem?_replicate]
  split <;> rfl

theorem sim_new {t o m : Int} (ok : newOk t o m = true) : Sim (Rm.new t o m) (Ms.new t o m) := by
  have hr : (1 ≤ t ∧ t ≤ 8) ∧ (1 ≤ o ∧ o ≤ 8) ∧ (1 ≤ m ∧ m ≤ 60) := by simpa [newOk, inRange] using ok
  have mon0 : ∀ x, (Ms.new t o m).mon x = ⟨-1, 0, 0⟩ := fun x => getD_rep _ _ _
  refine ⟨⟨by simp [Rm.new], by simp [Rm.new], by simp [Rm.new], by simp [Rm.new], by simp [Rm.new]⟩, new_ok t o m (by omega) (by omega), ⟨hr.2.2, ?_, ?_, ?_, ?_⟩, ?_, ?_, rfl, ?_, ?_, ?_, ?_, ?_, ?_, ?_⟩
  · intro x hx
    rw [mon0]
    refine ⟨by simp, by simp [Ms.new]; omega, fun _ => rfl, fun h => absurd rfl h, .inl rfl⟩
  · intro p hp; cases hp
  · intro p hp; cases hp
  · intro a b h; rfl
  · simp [Rm.new, Ms.new]; omega
  · simp [Rm.new, Ms.new]; omega
  · intro x hx; rw [mon0]; exact getD_rep _ _ _
  · intro x hx; rw [mon0]; exact getD_rep _ _ _
  · intro x hx; rw [mon0]; exact getD_rep _ _ _
  · intro x hx; show (List.replicate _ _).getD _ _ = (List.replicate _ _).getD _ _; rw [getD_rep, getD_rep]
  · intro a b ha hb; show ((List.replicate 64 pc0).getD _ pc0).waits = _; rw [getD_rep]; rfl
  · intro a b ha hb; show ((List.replicate 64 pc0).getD _ pc0).left = _; rw [getD_rep]; rfl
  · intro a b l ha hb h; cases h

end Go.Rf

/-
  The document's model: a new one; a transition.
-/
set_option linter.unusedSimpArgs false
set_option linter.unusedVariables false
namespace Go.Rf
open Go Go.Md Go.Sx Go.Proofs Go.Proofs.Ytnnedfhpicdacaa

theorem wf_new (n m most : Int) : (Rm.new n m most).Wf := ⟨by simp [Rm.new], by simp [Rm.new], by simp [Rm.new], by simp [Rm.new], by simp [Rm.new]⟩
theorem zero_rm : zeroC Try.prog 77 = rmA (Rm.new 0 0 0) := by kernel_rfl
theorem new_rm (n m most : Int) : setN (setN (setN (rmA (Rm.new 0 0 0)) 0 [.int .i64 n]) 1 [.int .i64 m]) 2 [.int .i64 most] = rmA (Rm.new n m most) := by
  unfold rmA
  rw [setN_setW, setN_setW, setN_setW]
  rfl

theorem newOk_or (n m most : Int) : newOk n m most = !(decide (n < 1) || decide (n > 8) || decide (m < 1) || decide (m > 8) || decide (most < 1) || decide (most > 60)) := by
  unfold newOk inRange
  rw [Bool.eq_iff_iff]
  simp only [Bool.and_eq_true, decide_eq_true_eq, Bool.not_eq_true', Bool.or_eq_false_iff, decide_eq_false_iff_not]
  omega

theorem meets_new' {h : PH} (n m most : Int) : Meets Try.prog 33 #[.int .i64 n, .int .i64 m, .int .i64 most] h fun v h' => v = (if newOk n m most = true then .tuple #[.agg (rmA (Rm.new n m most)), .int .i64 0] else .tuple #[.agg (rmA (Rm.new 0 0 0)), .int .i64 1]) ∧ h' = h := by
  apply Meets.same
  apply P_ref14_New_of
  unfold P_ref14_New
  refine xNew_intro fun b h1 l1 nb e1 => ?_
  rw [zero_rm] at e1 ⊢
  have z8 := rmA_size (wf_new 0 0 0)
  refine xSc_or (decide (n > 8)) (fun _ J hJ => hJ) ?_
  refine xSc_or (decide (m < 1)) (fun _ J hJ => hJ) ?_
  refine xSc_or (decide (m > 8)) (fun _ J hJ => hJ) ?_
  refine xSc_or (decide (most < 1)) (fun _ J hJ => hJ) ?_
  refine xSc_or (decide (most > 60)) (fun _ J hJ => hJ) ?_
  rw [newOk_or]
  refine ⟨fun hc => ?_, fun hc => ?_⟩
  · rw [hc]
    refine xSt_all e1 z8 z8 (by decide) (one_rm _) ?_
    rw [oBig_eq (PH.upd_same _ _ _) z8]
    exact ⟨rfl, upd_le_upd nb l1⟩
  · rw [hc, new_rm]
    have z8' := rmA_size (wf_new n m most)
    refine xSt_all e1 z8 z8' (by decide) (one_rm _) ?_
    rw [oBig_eq (PH.upd_same _ _ _) z8']
    exact ⟨rfl, upd_le_upd nb l1⟩

/-! ### The model's tables keep their lengths -/
section
variable {R : Rm} (w : R.Wf) (e : Ev)
include w
theorem wf_enter : (R.enter e).1.Wf := by
  unfold Rm.enter
  split
  · split
    · exact w
    · exact (w.setOw _ _).setCt _ _
  · split
    · exact w
    split
    · exact w
    split <;> exact w
theorem wf_wait : (R.wait e).1.Wf := by
  unfold Rm.wait
  split
  · split
    · exact w
    split
    · split
      · exact w.setFl _ _
      · exact w
    split
    · exact w
    split
    · split
      · exact ((w.setAt _ _ _).setOw _ _).setCt _ _
      · exact w
    · exact w
  split
  · split
    · split
      · exact w
      · exact w.setAt _ _ _
    · exact w
  split
  · split
    · split
      · exact w
      · simp only []
        split
        · exact (((w.setAt _ _ _).setOw _ _).setCt _ _).setFl _ _
        · exact ((w.setAt _ _ _).setOw _ _).setCt _ _
    · exact w
  · exact w
theorem wf_tell : (R.tell e).1.Wf := by
  unfold Rm.tell
  split
  · split
    · exact w
    · exact w.setAt _ _ _
  split
  · exact w
  split
  · exact w
  split
  · exact w
  split <;> exact w
theorem wf_ask : (R.ask e).1.Wf := by
  unfold Rm.ask
  split
  · exact w
  split
  · exact w
  split
  · simp only []
    split
    · exact w.setHs _ _
    · exact w
  split
  · exact w
  split
  · exact w.setFl _ _
  · exact w
end

/-- A run of Apply: the model, the transition, the answer's place; and a second model. -/
structure Gx (h0 : PH) (b2 b3 b4 b6 : Nat) (R R' : Rm) (e : Ev) (h : PH) : Prop where
  f : Fx h0 b2 b3 b4 R e h
  x : Mx R' h b6
  d2 : b6 ≠ b2
  d3 : b6 ≠ b3
  d4 : b6 ≠ b4
  n : h0 b6 = none
section
variable {h0 h : PH} {b2 b3 b4 b6 : Nat} {R R' : Rm} {e : Ev} (g : Gx h0 b2 b3 b4 b6 R R' e h)
include g
theorem Gx.turn {R'' : Rm} (w : R''.Wf) : Gx h0 b2 b3 b4 b6 R R'' e (h.upd b6 (.cells (rmA R'') 77 (0, 0))) := by
  obtain ⟨c, hc, ho⟩ := g.f.o
  exact ⟨⟨by rw [PH.upd_ne _ _ (Ne.symm g.d2)]; exact g.f.m, by rw [PH.upd_ne _ _ (Ne.symm g.d3)]; exact g.f.e, ⟨c, hc, by rw [PH.upd_ne _ _ (Ne.symm g.d4)]; exact ho⟩, g.f.n2, g.f.n4, g.f.d23, g.f.d24, g.f.d34, upd_le_upd g.n g.f.l, g.f.w⟩, ⟨PH.upd_same _ _ _, w⟩, g.d2, g.d3, g.d4, g.n⟩
theorem Gx.put {R'' : Rm} (w : R''.Wf) {K : PH → Prop} (k : ∀ h', Gx h0 b2 b3 b4 b6 R R'' e h' → K h') : xSt 227 h ⟨b6, 0, none⟩ (rmA R'').toList K :=
  xSt_all g.x.m (rmA_size g.x.w) (rmA_size w) (by decide) (one_rm R'') (k _ (g.turn w))
theorem Gx.sow {o v : Int} (ho : o.toNat < 8) {K : PH → Prop} (k : ∀ h', Gx h0 b2 b3 b4 b6 R (R'.setOw o v) e h' → K h') : xSt 1 h (((⟨b6, 0, none⟩ : Addr).add 3).add (o.toNat * 1)) [.int .i64 v] K := by
  rw [add_mk, add_mk, Nat.zero_add, Nat.mul_one]
  refine xSt_mk g.x.m rfl (by decide) (by simp [oneCell]) (by rw [rmA_size g.x.w]; omega) ?_
  rw [set_ow g.x.w ho]; exact k _ (g.turn (g.x.w.setOw _ _))
theorem Gx.sct {o v : Int} (ho : o.toNat < 8) {K : PH → Prop} (k : ∀ h', Gx h0 b2 b3 b4 b6 R (R'.setCt o v) e h' → K h') : xSt 1 h (((⟨b6, 0, none⟩ : Addr).add 11).add (o.toNat * 1)) [.int .i64 v] K := by
  rw [add_mk, add_mk, Nat.zero_add, Nat.mul_one]
  refine xSt_mk g.x.m rfl (by decide) (by simp [oneCell]) (by rw [rmA_size g.x.w]; omega) ?_
  rw [set_ct g.x.w ho]; exact k _ (g.turn (g.x.w.setCt _ _))
end

/-- A method that was called: what it tells lies where the second model does. -/
theorem used {r : Rm × Bool} (w : r.1.Wf) {K : Array Value → Bool → Prop} (k : K (rmA r.1) r.2) :
    oTup (res r) 2 fun cs => oIx cs[0]? fun w0 => oAgg w0 227 fun c0 => oIx cs[1]? fun w1 => oB (some w1) fun x => oAgg (.agg c0) 227 fun c1 => K c1 x := by
  unfold res
  simp only [oTup_mk, oIx_some, oAgg_mk, oB_some, List.getElem?_toArray, List.getElem?_cons_zero, List.getElem?_cons_succ]
  exact ⟨rfl, rmA_size w, rmA_size w, k⟩

def ret14 (r : Rm × Int) : Value := .tuple #[.agg (rmA r.1), .int .i64 r.2]

set_option maxHeartbeats 2000000 in
theorem meets_apply' {h : PH} {R : Rm} (w : R.Wf) (hn : R.n ≤ 8) (hm : R.m ≤ 8) (e : Ev) : Meets Try.prog 64 #[.agg (rmA R), .agg #[.int .i64 e.kind, .int .i64 e.thread, .int .i64 e.obj, .int .i64 e.arg, .int .i64 e.err]] h fun v h' => v = ret14 (R.apply e) ∧ h' = h := by
  apply Meets.same
  apply P_ref14_Apply_of
  unfold P_ref14_Apply
  refine Fx.start w fun b2 b3 b4 h1 f => ?_
  simp only [f.x.all, f.y.e1, oI_some]
  refine (meets_is w e.thread).look ?_
  simp only [oB_some]
  refine xSc_or (decide (e.obj < 0)) (fun _ J hJ => by simp only [f.y.e2, oI_some]; exact hJ) ?_
  refine xSc_or (decide (e.obj ≥ R.m)) (fun _ J hJ => by simp only [f.y.e2, f.x.m1, oI_some]; exact hJ) ?_
  refine xSc_or (e.kind != 5 && e.kind != 6 && R.gone e.thread) (fun hb J hJ => ?_) ?_
  · have hi : R.is e.thread = true := by
      simp only [Bool.or_eq_false_iff, Bool.not_eq_false'] at hb; exact hb.1.1
    have ht := is_rng hn hi
    simp only [f.y.e0, oI_some]
    refine xSc_and (e.kind != 6) (fun _ J hJ => hJ) ?_
    refine xSc_and (R.gone e.thread) (fun _ J' hJ' => ?_) hJ
    simp only [f.x.all, f.y.e1, oI_some]
    refine (meets_gone' w hm e.thread ht).look ?_
    simp only [oB_some]
    exact hJ'
  have may : R.may e = !(!R.is e.thread || decide (e.obj < 0) || decide (e.obj ≥ R.m) || e.kind != 5 && e.kind != 6 && R.gone e.thread) := rfl
  refine ⟨fun hc => ?_, fun hc => ?_⟩
  · simp only [f.x.all]
    refine f.fin w fun h2 l => ⟨?_, l⟩
    have : R.apply e = (R, 15) := by
      unfold Rm.apply; rw [may, hc]; rfl
    rw [this]; rfl
  have hmay : R.may e = true := by rw [may, hc]; rfl
  have rng : (0 ≤ e.obj ∧ e.obj < ((8 : Nat) : Int)) ∧ (0 ≤ e.thread ∧ e.thread < ((8 : Nat) : Int)) := by
    simp only [Bool.or_eq_false_iff, Bool.not_eq_false', decide_eq_false_iff_not] at hc
    obtain ⟨⟨⟨c1, c2⟩, c3⟩, c4⟩ := hc
    exact ⟨by omega, is_rng hn c1⟩
  obtain ⟨ho, ht⟩ := rng
  have o8 : e.obj.toNat < 8 := by omega
  simp only [f.x.all]
  have ap : R.apply e = if (!(R.act e).2) = true then (R, 15) else ((R.act e).1, 0) := by
    unfold Rm.apply; rw [hmay]; rfl
  refine xBox (c := (zeroC Try.prog 77).toList) (by simp) (by rw [Array.length_toList, Array.length_toList, zero_size, rmA_size w]) (by rw [Array.length_toList, rmA_size w]) (by decide) (one_rm R) fun b6 h2 l2 n6 e6 => ?_
  have g : Gx h b2 b3 b4 b6 R R e h2 := by
    obtain ⟨c, hc, ho⟩ := f.o
    refine ⟨f.le l2, ⟨by simpa using e6, w⟩, fun x => ?_, fun x => ?_, fun x => ?_, ?_⟩
    · subst x; rw [f.m] at n6; cases n6
    · subst x; rw [f.e] at n6; cases n6
    · subst x; rw [ho] at n6; cases n6
    · exact none_of f.l n6
  clear f e6 l2 n6
  simp only [g.f.y.e0, oI_some]
  refine xBlk_split1 (fun (x : Bool) h' => x = (R.act e).2 ∧ ∃ R', (x = true → R' = (R.act e).1) ∧ Gx h b2 b3 b4 b6 R R' e h') (fun x h' ⟨ex, R', eR, g⟩ => ?_) fun K hK => ?_
  · refine ⟨fun hx => ?_, fun hx => ?_⟩
    · simp only [g.f.x.all]
      refine g.f.fin w fun h2 l => ⟨?_, l⟩
      rw [ap, ← ex, if_pos hx]; rfl
    · have hx' : x = true := by simpa using hx
      simp only [oBig_eq g.x.m (rmA_size g.x.w)]
      refine g.f.fin g.x.w fun h2 l => ⟨?_, l⟩
      rw [ap, ← ex, if_neg (by rw [hx]; simp), ← eR hx']; rfl
  -- kinds 1, 2
  refine xIte_split1 (fun (x : Bool) h' => x = (e.kind == 1 || e.kind == 2) ∧ h' = h2) (fun x h' ⟨ex, eh⟩ => ?_) (fun hc K hK => hK _ _ ⟨by rw [hc]; rfl, rfl⟩) (fun hc K hK => hK _ _ ⟨by rw [hc]; rfl, rfl⟩)
  subst eh
  refine ⟨fun h0 => ?_, fun h0 => ?_⟩
  · have h0 : e.kind = 1 ∨ e.kind = 2 := by rw [h0] at ex; simpa using ex.symm
    have act : R.act e = ((R.enter e).1, (R.enter e).2 && e.arg == 0) := by unfold Rm.act; rw [if_pos h0]
    simp only [g.f.x.all, g.f.y.e0, g.f.y.e1, g.f.y.e2, g.f.y.e3, g.f.y.e4, oI_some]
    refine (meets_enter' w e ho).look ?_
    refine used (wf_enter w e) ?_
    refine g.put (wf_enter w e) fun h3 g => ?_
    refine xSc_and (e.arg == 0) (fun _ J hJ => by simp only [g.f.y.e3, oI_some]; exact hJ) ?_
    exact hK _ _ ⟨by rw [act], _, fun _ => by rw [act], g⟩
  have n12 : ¬(e.kind = 1 ∨ e.kind = 2) := by rw [h0] at ex; simpa using ex.symm
  -- kind 3
  refine ⟨fun h0 => ?_, fun h0 => ?_⟩
  · have h0 : e.kind = 3 := by simpa using h0
    have act : R.act e = (let ok := e.arg == 0 && (e.err == 0 && R.owns e || e.err == 9 && !R.owns e)
     (if (ok && e.err == 0) = true then
        (let R1 := R.setCt e.obj (IntKind.wrap .i64 (R.ct e.obj - 1))
         if R1.ct e.obj = 0 then R1.setOw e.obj 0 else R1)
      else R, ok)) := by unfold Rm.act; rw [if_neg n12, if_pos h0]
    refine xDraw_le ?_
    simp only [g.f.y.e0, g.f.y.e1, g.f.y.e2, g.f.y.e3, g.f.y.e4, oI_some, xIdxA_eq ho, g.f.x.ow o8]
    refine xSc_and (e.err == 0 && R.owns e || e.err == 9 && !R.owns e) (fun _ J hJ => ?_) ?_
    · try simp only [g.f.y.e4, oI_some]
      refine xSc_and (R.owns e) (fun _ J hJ => hJ) ?_
      refine xSc_or (e.err == 9 && !R.owns e) (fun _ J hJ => ?_) hJ
      simp only [g.f.y.e4, oI_some]
      exact xSc_and (!R.owns e) (fun _ J hJ => hJ) hJ
    refine xSc_and (e.err == 0) (fun _ J hJ => by simp only [g.f.y.e4, oI_some]; exact hJ) ?_
    refine xIte_split (fun h' => Gx h b2 b3 b4 b6 R (R.act e).1 e h') (fun h' g => hK _ _ ⟨by rw [act], _, fun _ => rfl, g⟩) (fun hc K hK => ?_) (fun hc K hK => hK _ ?_)
    · have e1 : (R.act e).1 = (if (R.setCt e.obj (IntKind.wrap .i64 (R.ct e.obj - 1))).ct e.obj = 0 then (R.setCt e.obj (IntKind.wrap .i64 (R.ct e.obj - 1))).setOw e.obj 0 else R.setCt e.obj (IntKind.wrap .i64 (R.ct e.obj - 1))) := by
        rw [act]; simp only []; rw [if_pos hc]
      simp only [g.f.y.e2, oI_some, xIdxA_eq ho, g.x.ct o8]
      refine g.sct o8 fun h3 g => ?_
      simp only [g.f.y.e2, oI_some, xIdxA_eq ho, g.x.ct o8]
      refine xIte_split (fun h' => Gx h b2 b3 b4 b6 R (R.act e).1 e h') (fun h' g => hK _ g) (fun hz K hK => ?_) (fun hz K hK => hK _ ?_)
      · have hz := eq_of_beq hz
        try simp only [g.f.y.e2, oI_some, xIdxA_eq ho]
        refine g.sow o8 fun h4 g => hK _ ?_
        rw [e1, if_pos hz]; exact g
      · have hz : ¬(R.setCt e.obj (IntKind.wrap .i64 (R.ct e.obj - 1))).ct e.obj = 0 := by
          intro x; rw [x] at hz; cases hz
        rw [e1, if_neg hz]; exact g
    · have e1 : (R.act e).1 = R := by
        rw [act]; simp only []; rw [if_neg (by rw [hc]; simp)]
      rw [e1]; exact g
  have n3 : ¬e.kind = 3 := by simpa using h0
  -- kinds 4, 5, 6
  refine xIte_split1 (fun (x : Bool) h'' => x = (e.kind == 4 || (e.kind == 5 || e.kind == 6)) ∧ h'' = h') (fun x h'' ⟨ex, eh⟩ => ?_) (fun hc K hK => hK _ _ ⟨by rw [hc]; rfl, rfl⟩)
    (fun hc K hK => xIte_split1 (fun (x : Bool) h'' => x = (e.kind == 5 || e.kind == 6) ∧ h'' = h') (fun x h'' ⟨ex, eh⟩ => hK _ _ ⟨by rw [hc, ex]; rfl, eh⟩) (fun hc K hK => hK _ _ ⟨by rw [hc]; rfl, rfl⟩) (fun hc K hK => hK _ _ ⟨by rw [hc]; rfl, rfl⟩))
  subst eh
  refine ⟨fun h0 => ?_, fun h0 => ?_⟩
  · have h0 : e.kind = 4 ∨ e.kind = 5 ∨ e.kind = 6 := by rw [h0] at ex; simpa using ex.symm
    have act : R.act e = if (decide (e.err ≥ 0) && decide (e.err < 100)) = true then ((R.wait e).1, (R.wait e).2 && e.arg == 0) else (R, false) := by unfold Rm.act; rw [if_neg n12, if_neg n3, if_pos h0]
    simp only [g.f.y.e4, oI_some]
    refine xSc_and (decide (e.err < 100)) (fun _ J hJ => by try simp only [g.f.y.e4, oI_some]
                                                            exact hJ) ?_
    refine xIte_split1 (fun (x : Bool) h' => (x && e.arg == 0) = (R.act e).2 ∧ ∃ R', ((x && e.arg == 0) = true → R' = (R.act e).1) ∧ Gx h b2 b3 b4 b6 R R' e h') (fun x h' ⟨ex, R', eR, g⟩ => ?_) (fun hc K hK => ?_) (fun hc K hK => hK _ _ ⟨?_, R, fun hx => (by cases hx), g⟩)
    · exact xSc_and (e.arg == 0) (fun _ J hJ => by simp only [g.f.y.e3, oI_some]; exact hJ) (hK _ _ ⟨ex, R', eR, g⟩)
    · have hr : 0 ≤ e.err ∧ e.err < 100 := by simpa using hc
      simp only [g.f.x.all, g.f.y.e0, g.f.y.e1, g.f.y.e2, g.f.y.e3, g.f.y.e4, oI_some]
      refine (meets_wait' w e ho ht h0 hr).look ?_
      refine used (wf_wait w e) ?_
      refine g.put (wf_wait w e) fun h3 g => ?_
      refine hK _ _ ⟨by rw [act, if_pos hc], _, fun _ => by rw [act, if_pos hc], g⟩
    · rw [act, if_neg (by rw [hc]; simp)]; rfl
  have n4 : ¬(e.kind = 4 ∨ e.kind = 5 ∨ e.kind = 6) := by rw [h0] at ex; simpa using ex.symm
  -- kinds 7, 8, 9
  refine xIte_split1 (fun (x : Bool) h3 => x = (e.kind == 7 || (e.kind == 8 || e.kind == 9)) ∧ h3 = h'') (fun x h3 ⟨ex, eh⟩ => ?_) (fun hc K hK => hK _ _ ⟨by rw [hc]; rfl, rfl⟩)
    (fun hc K hK => xIte_split1 (fun (x : Bool) h3 => x = (e.kind == 8 || e.kind == 9) ∧ h3 = h'') (fun x h3 ⟨ex, eh⟩ => hK _ _ ⟨by rw [hc, ex]; rfl, eh⟩) (fun hc K hK => hK _ _ ⟨by rw [hc]; rfl, rfl⟩) (fun hc K hK => hK _ _ ⟨by rw [hc]; rfl, rfl⟩))
  subst eh
  refine ⟨fun h0 => ?_, fun h0 => ?_⟩
  · have h0 : e.kind = 7 ∨ e.kind = 8 ∨ e.kind = 9 := by rw [h0] at ex; simpa using ex.symm
    have act : R.act e = R.tell e := by unfold Rm.act; rw [if_neg n12, if_neg n3, if_neg n4, if_pos h0]
    simp only [g.f.x.all, g.f.y.e0, g.f.y.e1, g.f.y.e2, g.f.y.e3, g.f.y.e4, oI_some]
    refine (meets_tell' w hn e ho).look ?_
    refine used (wf_tell w e) ?_
    refine g.put (wf_tell w e) fun h3 g => ?_
    exact hK _ _ ⟨by rw [act], _, fun _ => by rw [act], g⟩
  have n7 : ¬(e.kind = 7 ∨ e.kind = 8 ∨ e.kind = 9) := by rw [h0] at ex; simpa using ex.symm
  -- kinds 10, 11, 12
  refine xIte_split1 (fun (x : Bool) h4 => x = (e.kind == 10 || (e.kind == 11 || e.kind == 12)) ∧ h4 = h3) (fun x h4 ⟨ex, eh⟩ => ?_) (fun hc K hK => hK _ _ ⟨by rw [hc]; rfl, rfl⟩)
    (fun hc K hK => xIte_split1 (fun (x : Bool) h4 => x = (e.kind == 11 || e.kind == 12) ∧ h4 = h3) (fun x h4 ⟨ex, eh⟩ => hK _ _ ⟨by rw [hc, ex]; rfl, eh⟩) (fun hc K hK => hK _ _ ⟨by rw [hc]; rfl, rfl⟩) (fun hc K hK => hK _ _ ⟨by rw [hc]; rfl, rfl⟩))
  subst eh
  refine ⟨fun h0 => ?_, fun h0 => ?_⟩
  · have h0 : e.kind = 10 ∨ e.kind = 11 ∨ e.kind = 12 := by rw [h0] at ex; simpa using ex.symm
    have act : R.act e = R.ask e := by unfold Rm.act; rw [if_neg n12, if_neg n3, if_neg n4, if_neg n7, if_pos h0]
    simp only [g.f.x.all, g.f.y.e0, g.f.y.e1, g.f.y.e2, g.f.y.e3, g.f.y.e4, oI_some]
    refine (meets_ask' w hn e ho).look ?_
    refine used (wf_ask w e) ?_
    refine g.put (wf_ask w e) fun h3 g => ?_
    exact hK _ _ ⟨by rw [act], _, fun _ => by rw [act], g⟩
  have n10 : ¬(e.kind = 10 ∨ e.kind = 11 ∨ e.kind = 12) := by rw [h0] at ex; simpa using ex.symm
  refine hK _ _ ⟨?_, R, fun hx => (by cases hx), g⟩
  have act : R.act e = (R, false) := by unfold Rm.act; rw [if_neg n12, if_neg n3, if_neg n4, if_neg n7, if_neg n10]
  rw [act]

end Go.Rf

/-
  Orders of calls, as plain values: the first one that can have been.
-/
set_option linter.unusedSimpArgs false
set_option linter.unusedVariables false
namespace Go.Ck
open Go Go.Md

structure Cl where
  event : Ev
  fr : Int
  to : Int
def cl0 : Cl := ⟨⟨0, 0, 0, 0, 0⟩, 0, 0⟩
def Cl.may (c : Cl) : Bool :=
  if decide (c.fr ≥ c.to) = true then false
  else if c.event.kind = 1 ∨ c.event.kind = 2 ∨ c.event.kind = 3 ∨ c.event.kind = 9 ∨ c.event.kind = 11 ∨ c.event.kind = 12 then true
  else if c.event.kind = 8 then c.event.arg == -1
  else if c.event.kind = 10 then c.event.err == 0
  else false

section
variable (l : List Cl)
def cl (k : Nat) : Cl := l.getD k cl0
/-- Whether a call may be the next one. -/
def freeK (done k : Nat) : Bool := !done.testBit k && (List.range l.length).all fun i => !decide ((cl l i).to < (cl l k).fr) || done.testBit i
def leftN (done : Nat) : Nat := ((List.range l.length).filter fun k => !done.testBit k).length
def srch : Nat → Nat → Ms → Option (List Nat)
  | 0, _, _ => some []
  | f + 1, done, s => (List.range l.length).findSome? fun k => if (freeK l done k && s.code (cl l k).event == 0) = true then (srch f (done ||| 2 ^ k) (s.next (cl l k).event)).map (k :: ·) else none
/-- An order of those that are left. -/
def Valid : Nat → Ms → List Nat → Prop
  | done, _, [] => leftN l done = 0
  | done, s, k :: ks => k < l.length ∧ freeK l done k = true ∧ s.code (cl l k).event = 0 ∧ Valid (done ||| 2 ^ k) (s.next (cl l k).event) ks
end

theorem testBit_or_pow (d k i : Nat) : (d ||| 2 ^ k).testBit i = (d.testBit i || decide (k = i)) := by
  rw [Nat.testBit_or, Nat.testBit_two_pow]

theorem left_or {l : List Cl} {done k : Nat} (hk : k < l.length) (hb : done.testBit k = false) : leftN l (done ||| 2 ^ k) + 1 = leftN l done := by
  unfold leftN
  have key : ∀ n, k < n → ((List.range n).filter fun i => !(done ||| 2 ^ k).testBit i).length + 1 = ((List.range n).filter fun i => !done.testBit i).length := by
    intro n
    induction n with
    | zero => intro h; omega
    | succ n ih =>
      intro h
      rw [List.range_succ, List.filter_append, List.filter_append, List.length_append, List.length_append]
      by_cases e : k = n
      · subst e
        have same : ((List.range k).filter fun i => !(done ||| 2 ^ k).testBit i) = (List.range k).filter fun i => !done.testBit i := by
          apply List.filter_congr
          intro i hi
          have : i < k := by simpa using hi
          rw [testBit_or_pow]
          have : decide (k = i) = false := by simp; omega
          rw [this, Bool.or_false]
        rw [same]
        simp [List.filter_cons, testBit_or_pow, hb]
      · have := ih (by omega)
        have e2 : (done ||| 2 ^ k).testBit n = done.testBit n := by rw [testBit_or_pow]; simp [e]
        simp only [List.filter_cons, List.filter_nil, e2]
        omega
  exact key _ hk
theorem left_zero {l : List Cl} {done : Nat} (h : leftN l done = 0) : ∀ k, k < l.length → done.testBit k = true := by
  intro k hk
  unfold leftN at h
  have := List.eq_nil_of_length_eq_zero h
  rw [List.filter_eq_nil_iff] at this
  have := this k (by simpa using hk)
  simpa using this
theorem left_full {l : List Cl} : leftN l (2 ^ l.length - 1) = 0 := by
  unfold leftN
  rw [List.length_eq_zero_iff, List.filter_eq_nil_iff]
  intro k hk
  have : k < l.length := by simpa using hk
  simp [Nat.testBit_two_pow_sub_one, this]
theorem full_of_left {l : List Cl} {done : Nat} (hd : done < 2 ^ l.length) (h : leftN l done = 0) : done = 2 ^ l.length - 1 := by
  apply Nat.eq_of_testBit_eq
  intro i
  rw [Nat.testBit_two_pow_sub_one]
  by_cases hi : i < l.length
  · simp [hi, left_zero h i hi]
  · simp only [hi, decide_false]
    apply Nat.testBit_lt_two_pow
    exact Nat.lt_of_lt_of_le hd (Nat.pow_le_pow_right (by decide) (by omega))
theorem left_pos {l : List Cl} {done : Nat} (hd : done < 2 ^ l.length) (h : done ≠ 2 ^ l.length - 1) : leftN l done ≠ 0 := fun h0 => h (full_of_left hd h0)
theorem or_lt {l : List Cl} {done k : Nat} (hd : done < 2 ^ l.length) (hk : k < l.length) : done ||| 2 ^ k < 2 ^ l.length := Nat.or_lt_two_pow hd (Nat.pow_lt_pow_right (by decide) hk)
theorem left_start (l : List Cl) : leftN l 0 = l.length := by
  unfold leftN
  rw [List.filter_eq_self.2 (by intro k _; simp)]
  simp

theorem free_bit {l : List Cl} {done k : Nat} (h : freeK l done k = true) : done.testBit k = false := by
  unfold freeK at h
  simp only [Bool.and_eq_true, Bool.not_eq_true'] at h
  exact h.1

theorem srch_valid {l : List Cl} : ∀ (f done : Nat) (s : Ms) (ks : List Nat), leftN l done = f → srch l f done s = some ks → Valid l done s ks := by
  intro f
  induction f with
  | zero => intro done s ks hf h; simp only [srch, Option.some.injEq] at h; subst h; exact hf
  | succ f ih =>
    intro done s ks hf h
    unfold srch at h
    obtain ⟨k, hk, hh⟩ := List.exists_of_findSome?_eq_some h
    have hk : k < l.length := by simpa using hk
    split at hh
    · rename_i hc
      simp only [Bool.and_eq_true, beq_iff_eq] at hc
      cases hr : srch l f (done ||| 2 ^ k) (s.next (cl l k).event) with
      | none => rw [hr] at hh; cases hh
      | some ks' =>
        rw [hr] at hh
        simp only [Option.map_some, Option.some.injEq] at hh
        subst hh
        have := left_or hk (free_bit hc.1)
        exact ⟨hk, hc.1, hc.2, ih _ _ _ (by omega) hr⟩
    · cases hh

theorem srch_some {l : List Cl} : ∀ (f done : Nat) (s : Ms) (ks : List Nat), leftN l done = f → Valid l done s ks → srch l f done s ≠ none := by
  intro f
  induction f with
  | zero => intro done s ks _ _; simp [srch]
  | succ f ih =>
    intro done s ks hf h
    cases ks with
    | nil => simp only [Valid] at h; omega
    | cons k ks =>
      obtain ⟨hk, hfr, hc, hv⟩ := h
      have := left_or hk (free_bit hfr)
      have hr := ih _ _ _ (by omega) hv
      unfold srch
      intro hn
      rw [List.findSome?_eq_none_iff] at hn
      have := hn k (by simpa using hk)
      rw [if_pos (by simp [hfr, hc])] at this
      cases hx : srch l f (done ||| 2 ^ k) (s.next (cl l k).event) with
      | none => exact hr hx
      | some r => rw [hx] at this; cases this

/-- What is done behind some calls. -/
def doneOf (d : Nat) (ks : List Nat) : Nat := ks.foldl (fun d k => d ||| 2 ^ k) d
def after (l : List Cl) (s : Ms) (ks : List Nat) : Ms := ks.foldl (fun s k => s.next (cl l k).event) s
theorem doneOf_bit (ks : List Nat) : ∀ (d i : Nat), (doneOf d ks).testBit i = (d.testBit i || decide (i ∈ ks)) := by
  induction ks with
  | nil => intro d i; simp [doneOf]
  | cons k ks ih =>
    intro d i
    show (doneOf (d ||| 2 ^ k) ks).testBit i = _
    rw [ih, testBit_or_pow]
    by_cases h1 : i = k
    · subst h1; simp
    · have : ¬k = i := fun h => h1 h.symm
      simp [h1, this]
theorem valid_at {l : List Cl} : ∀ (ks : List Nat) (d : Nat) (s : Ms), Valid l d s ks → ∀ j (hj : j < ks.length), ks[j] < l.length ∧ freeK l (doneOf d (ks.take j)) ks[j] = true ∧ (after l s (ks.take j)).code (cl l ks[j]).event = 0 := by
  intro ks
  induction ks with
  | nil => intro d s _ j hj; simp at hj
  | cons k ks ih =>
    intro d s h j hj
    obtain ⟨hk, hf, hc, hv⟩ := h
    cases j with
    | zero => exact ⟨hk, hf, hc⟩
    | succ j => exact ih _ _ hv j (by simpa using hj)
theorem free_spec {l : List Cl} {done k : Nat} (h : freeK l done k = true) : done.testBit k = false ∧ ∀ i, i < l.length → (cl l i).to < (cl l k).fr → done.testBit i = true := by
  refine ⟨free_bit h, fun i hi hlt => ?_⟩
  unfold freeK at h
  simp only [Bool.and_eq_true, List.all_eq_true] at h
  have := h.2 i (by simpa using hi)
  simpa [hlt] using this
theorem free_mk {l : List Cl} {done k : Nat} (h1 : done.testBit k = false) (h2 : ∀ i, i < l.length → (cl l i).to < (cl l k).fr → done.testBit i = true) : freeK l done k = true := by
  unfold freeK
  simp only [Bool.and_eq_true, Bool.not_eq_true', List.all_eq_true]
  refine ⟨h1, fun i hi => ?_⟩
  have hi : i < l.length := by simpa using hi
  by_cases hlt : (cl l i).to < (cl l k).fr
  · simp [hlt, h2 i hi hlt]
  · simp [hlt]
/-- An order's calls: each one once; none that is left was over ahead. -/
theorem valid_new {l : List Cl} {ks : List Nat} {s : Ms} (h : Valid l 0 s ks) {j : Nat} (hj : j < ks.length) : ks[j] < l.length ∧ ks[j] ∉ ks.take j ∧ ∀ i, i < l.length → i ∉ ks.take j → ¬(cl l i).to < (cl l ks[j]).fr := by
  obtain ⟨h1, h2, _⟩ := valid_at ks 0 s h j hj
  obtain ⟨a, b⟩ := free_spec h2
  have bit : ∀ i, (doneOf 0 (ks.take j)).testBit i = decide (i ∈ ks.take j) := fun i => by rw [doneOf_bit]; simp
  rw [bit] at a
  refine ⟨h1, by simpa using a, fun i hi hn hlt => hn ?_⟩
  have := b i hi hlt
  rw [bit] at this
  simpa using this

/-- The calls of an order's beginning, by themselves, have an order. -/
theorem prefix_valid {l : List Cl} {ks : List Nat} {s : Ms} (h : Valid l 0 s ks) (m : Nat) (hm : m ≤ ks.length) : ∃ ks', Valid ((ks.take m).map (cl l)) 0 s ks' := by
  have plen : ((ks.take m).map (cl l)).length = m := by simp; omega
  have pcl : ∀ i, (hi : i < m) → cl ((ks.take m).map (cl l)) i = cl l (ks[i]'(Nat.lt_of_lt_of_le hi hm)) := by
    intro i hi
    have e : ((ks.take m).map (cl l))[i]? = some (cl l (ks[i]'(Nat.lt_of_lt_of_le hi hm))) := by
      rw [List.getElem?_map, List.getElem?_take, if_pos hi, List.getElem?_eq_getElem (by omega)]; rfl
    unfold cl at *
    rw [List.getD_eq_getElem?_getD, e]; rfl
  generalize (ks.take m).map (cl l) = P at plen pcl ⊢
  have key : ∀ q i, q + i = m → Valid P (2 ^ i - 1) (after l s (ks.take i)) (List.range' i q) := by
    intro q
    induction q with
    | zero =>
      intro i hi
      have : i = P.length := by omega
      subst this
      exact left_full
    | succ q ih =>
      intro i hi
      have hil : i < ks.length := by omega
      obtain ⟨h1, h2, h3⟩ := valid_at ks 0 s h i hil
      have nw := fun j (hj : j < ks.length) => valid_new h hj
      refine ⟨by omega, free_mk (by simp [Nat.testBit_two_pow_sub_one]) ?_, ?_, ?_⟩
      · intro i' hi' hlt
        rw [pcl i' (by omega), pcl i (by omega)] at hlt
        rw [Nat.testBit_two_pow_sub_one]
        by_cases hc : i' < i
        · simp [hc]
        · exfalso
          obtain ⟨a1, a2, a3⟩ := nw i hil
          obtain ⟨b1, b2, b3⟩ := nw i' (by omega)
          refine a3 _ b1 (fun hmem => b2 ?_) hlt
          have : ks.take i' = ks.take i ++ (ks.drop i).take (i' - i) := by
            rw [← List.take_add]; congr 1; omega
          rw [this]
          exact List.mem_append_left _ hmem
      · rw [pcl i (by omega)]; exact h3
      · have e1 : 2 ^ i - 1 ||| 2 ^ i = 2 ^ (i + 1) - 1 := by
          apply Nat.eq_of_testBit_eq
          intro x
          rw [testBit_or_pow, Nat.testBit_two_pow_sub_one, Nat.testBit_two_pow_sub_one]
          by_cases hx : x < i
          · simp [hx]; omega
          · by_cases hx2 : i = x
            · simp [hx2]
            · simp [hx, hx2]; omega
        have e2 : (after l s (ks.take i)).next (cl P i).event = after l s (ks.take (i + 1)) := by
          rw [pcl i (by omega), List.take_succ_eq_append_getElem hil]
          unfold after
          rw [List.foldl_append]; rfl
        rw [e1, e2]
        exact ih (i + 1) (by omega)
  refine ⟨_, key m 0 (by omega)⟩
/-- .. and are taken as they stand. -/
theorem prefix_serial {l : List Cl} {ks : List Nat} {s : Ms} (h : Valid l 0 s ks) (m j : Nat) (hm : m ≤ ks.length) (hj : j < m) : (((ks.take m).map (cl l)).take j |>.foldl (fun s c => s.next c.event) s).code (cl ((ks.take m).map (cl l)) j).event = 0 := by
  obtain ⟨_, _, h3⟩ := valid_at ks 0 s h j (by omega)
  have e1 : cl ((ks.take m).map (cl l)) j = cl l (ks[j]'(by omega)) := by
    have e : ((ks.take m).map (cl l))[j]? = some (cl l (ks[j]'(by omega))) := by
      rw [List.getElem?_map, List.getElem?_take, if_pos hj, List.getElem?_eq_getElem (by omega)]; rfl
    generalize (ks.take m).map (cl l) = P at e ⊢
    unfold cl at *
    rw [List.getD_eq_getElem?_getD, e]; rfl
  rw [e1, ← List.map_take, List.take_take, Nat.min_eq_left (by omega), List.foldl_map]
  exact h3

end Go.Ck

/-
  What is asked of a model.
-/
set_option linter.unusedSimpArgs false
set_option linter.unusedVariables false
namespace Go.Md
open Go Go.Sx Go.Proofs Go.Proofs.Ytnnedfhpicdacaa

def moA (m : Mo) : Value := .agg #[.int .i64 m.owner, .int .i64 m.count, .int .i64 m.hash]
/-- An object's monitor; that of none is nobody's. -/
def Ms.at (s : Ms) (o : Int) : Mo := if s.isObj o then s.mon o else ⟨-1, 0, 0⟩

theorem meets_at {h : PH} {L : ML} {s : Ms} (r : MRep h L s) (o : Int) : Meets Try.prog 58 #[mp L, .int .i64 o] h fun v h' => v = moA (s.at o) ∧ h' = h := by
  apply Meets.same
  apply P_model_Model_at_of
  unfold P_model_Model_at
  intro b nb
  obtain ⟨d1, d2, d3, d4, d5⟩ := r.off nb
  obtain ⟨c, c', cm⟩ := r.cm
  obtain ⟨j, co⟩ := r.co
  have l : h.le _ := PH.le_upd (O := .cells #[.int .i64 0, .int .i64 0, .int .i64 0] 117 (0, 0)) nb
  refine (meets_ok (r.new nb)).look ?_
  simp only [oB_some]
  refine xSc_or (!s.isObj o) (fun _ J hJ => ?_) ⟨fun hx => ?_, fun hx => ?_⟩
  · simp only [xNn_some, add_mk, cell_mk, upd_at, del_at, if_true, if_false, Option.bind_some, List.getElem?_toArray, List.getElem?_cons_succ, List.getElem?_cons_zero, oI_some, oS_some, oM_some, oB_some, oP_some, oT_some, xIdx_some, Nat.zero_add, Nat.add_zero, Nat.mul_one, d1, cm, wrap_len r.nm]
    refine (meets_in _ _ _).look ?_
    simp only [xNn_some, add_mk, cell_mk, upd_at, del_at, if_true, if_false, Option.bind_some, List.getElem?_toArray, List.getElem?_cons_succ, List.getElem?_cons_zero, oI_some, oS_some, oM_some, oB_some, oP_some, oT_some, xIdx_some, Nat.zero_add, Nat.add_zero, Nat.mul_one]
    exact hJ
  · refine xSt_mk (PH.upd_same _ _ _) rfl (by decide) (by simp [oneCell]) (by simp) ?_
    rw [PH.upd_upd, setN3]
    simp only [xNn_some, add_mk, cell_mk, upd_at, del_at, if_true, if_false, Option.bind_some, List.getElem?_toArray, List.getElem?_cons_succ, List.getElem?_cons_zero, oI_some, oS_some, oM_some, oB_some, oP_some, oT_some, xIdx_some, Nat.zero_add, Nat.add_zero, Nat.mul_one]
    have : s.isObj o = false := by simpa using hx
    exact ⟨by simp only [Ms.at, this, if_false, Bool.false_eq_true]; rfl, PH.le_upd nb⟩
  · have hi : s.isObj o = true := by simpa using hx
    have h0 : 0 ≤ o ∧ o < (s.mons.length : Int) ∧ o.toNat < s.mons.length := by
      simp only [Ms.isObj, Bool.and_eq_true, decide_eq_true_eq] at hi
      omega
    simp only [xNn_some, add_mk, cell_mk, upd_at, del_at, if_true, if_false, Option.bind_some, List.getElem?_toArray, List.getElem?_cons_succ, List.getElem?_cons_zero, oI_some, oS_some, oM_some, oB_some, oP_some, oT_some, xIdx_some, Nat.zero_add, Nat.add_zero, Nat.mul_one, d1, cm]
    refine ⟨h0.1, h0.2.1, ?_⟩
    simp only [xNn_some, add_mk, cell_mk, upd_at, del_at, if_true, if_false, Option.bind_some, List.getElem?_toArray, List.getElem?_cons_succ, List.getElem?_cons_zero, oI_some, oS_some, oM_some, oB_some, oP_some, oT_some, xIdx_some, Nat.zero_add, Nat.add_zero, Nat.mul_one, d2, co, moArr_0 h0.2.2, moArr_1 h0.2.2, moArr_2 h0.2.2]
    refine xSt_mk (PH.upd_same _ _ _) rfl (by decide) (by simp [oneCell]) (by simp) ?_
    rw [PH.upd_upd, setN3]
    simp only [xNn_some, add_mk, cell_mk, upd_at, del_at, if_true, if_false, Option.bind_some, List.getElem?_toArray, List.getElem?_cons_succ, List.getElem?_cons_zero, oI_some, oS_some, oM_some, oB_some, oP_some, oT_some, xIdx_some, Nat.zero_add, Nat.add_zero, Nat.mul_one]
    exact ⟨by simp only [Ms.at, hi, if_true]; rfl, PH.le_upd nb⟩

theorem meets_Owner {h : PH} {L : ML} {s : Ms} (r : MRep h L s) (o : Int) : Meets Try.prog 18 #[mp L, .int .i64 o] h fun v h' => v = .int .i64 (s.at o).owner ∧ h' = h := by
  apply P_model_Model_Owner_of
  unfold P_model_Model_Owner
  refine (meets_at r o).look ?_
  simp only [moA, oAgg_mk, xNn_some, add_mk, cell_mk, upd_at, del_at, if_true, if_false, Option.bind_some, List.getElem?_toArray, List.getElem?_cons_succ, List.getElem?_cons_zero, oI_some, oS_some, oM_some, oB_some, oP_some, oT_some, xIdx_some, Nat.zero_add, Nat.add_zero, Nat.mul_one]
  simp
theorem meets_Count {h : PH} {L : ML} {s : Ms} (r : MRep h L s) (o : Int) : Meets Try.prog 19 #[mp L, .int .i64 o] h fun v h' => v = .int .i64 (s.at o).count ∧ h' = h := by
  apply P_model_Model_Count_of
  unfold P_model_Model_Count
  refine (meets_at r o).look ?_
  simp only [moA, oAgg_mk, xNn_some, add_mk, cell_mk, upd_at, del_at, if_true, if_false, Option.bind_some, List.getElem?_toArray, List.getElem?_cons_succ, List.getElem?_cons_zero, oI_some, oS_some, oM_some, oB_some, oP_some, oT_some, xIdx_some, Nat.zero_add, Nat.add_zero, Nat.mul_one]
  simp
theorem meets_Hash {h : PH} {L : ML} {s : Ms} (r : MRep h L s) (o : Int) : Meets Try.prog 21 #[mp L, .int .i64 o] h fun v h' => v = .int .i64 (s.at o).hash ∧ h' = h := by
  apply P_model_Model_Hash_of
  unfold P_model_Model_Hash
  refine (meets_at r o).look ?_
  simp only [moA, oAgg_mk, xNn_some, add_mk, cell_mk, upd_at, del_at, if_true, if_false, Option.bind_some, List.getElem?_toArray, List.getElem?_cons_succ, List.getElem?_cons_zero, oI_some, oS_some, oM_some, oB_some, oP_some, oT_some, xIdx_some, Nat.zero_add, Nat.add_zero, Nat.mul_one]
  simp
theorem meets_Flag {h : PH} {L : ML} {s : Ms} (r : MRep h L s) (t : Int) : Meets Try.prog 17 #[mp L, .int .i64 t] h fun v h' => v = .bool (s.isThread t && s.flag t) ∧ h' = h := by
  apply P_model_Model_Flag_of
  unfold P_model_Model_Flag
  obtain ⟨c, c', cm⟩ := r.cm
  obtain ⟨j, cf⟩ := r.cf
  refine (meets_ok r).look ?_
  simp only [oB_some]
  refine xSc_and (s.isThread t) (fun _ J hJ => ?_) ?_
  · refine (meets_isThread r t).look ?_
    simp only [oB_some]
    exact hJ
  refine xSc_and (s.flag t) (fun hx J hJ => ?_) ⟨by simp, rfl⟩
  have hi : s.isThread t = true := by simpa using hx
  have h0 : 0 ≤ t ∧ t < (s.flags.length : Int) ∧ t.toNat < s.flags.length := by
    simp only [Ms.isThread, Bool.and_eq_true, decide_eq_true_eq] at hi
    omega
  simp only [xNn_some, add_mk, cell_mk, upd_at, del_at, if_true, if_false, Option.bind_some, List.getElem?_toArray, List.getElem?_cons_succ, List.getElem?_cons_zero, oI_some, oS_some, oM_some, oB_some, oP_some, oT_some, xIdx_some, Nat.zero_add, Nat.add_zero, Nat.mul_one, cm, cf, flArr_get h0.2.2]
  exact ⟨h0.1, h0.2.1, hJ⟩

end Go.Md

/-
  Two models of the same value are the same.
-/
set_option linter.unusedSimpArgs false
set_option linter.unusedVariables false
namespace Go.Md
open Go Go.Sx Go.Proofs Go.Proofs.Ytnnedfhpicdacaa

theorem meets_equal_mons {h : PH} {a b : Nat} {l : List Mo} {j j' : List Value} {c c' : Nat} (ha : h a = some (.cells (moArr l j) 117 (0, 0))) (hb : h b = some (.cells (moArr l j') 117 (0, 0))) (h8 : l.length ≤ 8) :
    Meets Try.prog 53 #[.slice (some ⟨a, 0, none⟩) l.length c, .slice (some ⟨b, 0, none⟩) l.length c'] h fun v h' => v = .bool true ∧ h' = h := by
  apply P_slices_Equal_model_monitor_model_monitor_of
  unfold P_slices_Equal_model_monitor_model_monitor
  refine ⟨fun hx => ?_, fun _ => ?_⟩
  · simp at hx
  refine xLoop1 (fun (x : Int) h' => h' = h ∧ 0 ≤ x ∧ x ≤ l.length) (fun (x : Int) _ => ((l.length : Int) - x).toNat) ?_ ⟨rfl, by omega, by omega⟩
  rintro J x _ ⟨rfl, x0, x1⟩ hJ
  refine ⟨fun hc => ?_, fun hc => ⟨rfl, rfl⟩⟩
  have hc := of_decide_eq_true hc
  have hn : x.toNat < l.length := by omega
  have hw : IntKind.wrap .i64 (x + 1) = x + 1 := wrap64_id (by omega) (by omega)
  have hmu : ((l.length : Int) - (x + 1)).toNat < ((l.length : Int) - x).toNat := by omega
  have x0' : 0 ≤ x + 1 := by omega
  have x1' : x + 1 ≤ l.length := by omega
  refine xDraw_self ?_
  simp only [xNn_some, add_mk, cell_mk, upd_at, del_at, if_true, if_false, Option.bind_some, List.getElem?_toArray, List.getElem?_cons_succ, List.getElem?_cons_zero, oI_some, oS_some, oM_some, oB_some, oP_some, oT_some, xIdx_some, Nat.zero_add, Nat.add_zero, Nat.mul_one, ha, hb, moArr_0 hn, moArr_1 hn, moArr_2 hn]
  refine ⟨x0, hc, x0, hc, true, ?_, fun hx => (by cases hx), fun _ => ?_⟩
  · have := eqLaw_ints (P := Try.prog) (t := 117) [.i64, .i64, .i64] [(l.getD x.toNat ⟨-1, 0, 0⟩).owner, (l.getD x.toNat ⟨-1, 0, 0⟩).count, (l.getD x.toNat ⟨-1, 0, 0⟩).hash] [(l.getD x.toNat ⟨-1, 0, 0⟩).owner, (l.getD x.toNat ⟨-1, 0, 0⟩).count, (l.getD x.toNat ⟨-1, 0, 0⟩).hash] (by kernel_rfl) rfl rfl
    rw [show ([(l.getD x.toNat ⟨-1, 0, 0⟩).owner, (l.getD x.toNat ⟨-1, 0, 0⟩).count, (l.getD x.toNat ⟨-1, 0, 0⟩).hash] == [(l.getD x.toNat ⟨-1, 0, 0⟩).owner, (l.getD x.toNat ⟨-1, 0, 0⟩).count, (l.getD x.toNat ⟨-1, 0, 0⟩).hash]) = true from by simp] at this
    exact this
  · rw [hw]
    exact hJ _ _ ⟨rfl, x0', x1'⟩ hmu

theorem meets_equal_flags {h : PH} {a b : Nat} {l : List Bool} {j j' : List Value} {c c' : Nat} (ha : h a = some (.cells (flArr l j) 4 (0, 0))) (hb : h b = some (.cells (flArr l j') 4 (0, 0))) (h8 : l.length ≤ 8) :
    Meets Try.prog 54 #[.slice (some ⟨a, 0, none⟩) l.length c, .slice (some ⟨b, 0, none⟩) l.length c'] h fun v h' => v = .bool true ∧ h' = h := by
  apply P_slices_Equal_bool_bool_of
  unfold P_slices_Equal_bool_bool
  refine ⟨fun hx => ?_, fun _ => ?_⟩
  · simp at hx
  refine xLoop1 (fun (x : Int) h' => h' = h ∧ 0 ≤ x ∧ x ≤ l.length) (fun (x : Int) _ => ((l.length : Int) - x).toNat) ?_ ⟨rfl, by omega, by omega⟩
  rintro J x _ ⟨rfl, x0, x1⟩ hJ
  refine ⟨fun hc => ?_, fun hc => ⟨rfl, rfl⟩⟩
  have hc := of_decide_eq_true hc
  have hn : x.toNat < l.length := by omega
  have hw : IntKind.wrap .i64 (x + 1) = x + 1 := wrap64_id (by omega) (by omega)
  have hmu : ((l.length : Int) - (x + 1)).toNat < ((l.length : Int) - x).toNat := by omega
  have x0' : 0 ≤ x + 1 := by omega
  have x1' : x + 1 ≤ l.length := by omega
  refine xDraw_self ?_
  simp only [xNn_some, add_mk, cell_mk, upd_at, del_at, if_true, if_false, Option.bind_some, List.getElem?_toArray, List.getElem?_cons_succ, List.getElem?_cons_zero, oI_some, oS_some, oM_some, oB_some, oP_some, oT_some, xIdx_some, Nat.zero_add, Nat.add_zero, Nat.mul_one, ha, hb, flArr_get hn]
  refine ⟨x0, hc, x0, hc, fun hx => ?_, fun _ => ?_⟩
  · simp at hx
  · rw [hw]
    exact hJ _ _ ⟨rfl, x0', x1'⟩ hmu

theorem meets_equal_waits {h : PH} {a b : Nat} {l : Pl (Int)} (ra : MapRep encI h a l) (rb : MapRep encI h b l) (ho : Pl.Once l) : Meets Try.prog 55 #[.map (some a), .map (some b)] h fun v h' => v = .bool true ∧ h' = h := by
  apply Meets.same
  have rb' := rb
  obtain ⟨es, cl, ea, en, st⟩ := ra
  obtain ⟨es', cl', eb, en', st'⟩ := rb
  have hlen : es.size = es'.size := by
    have h1 := congrArg List.length en
    have h2 := congrArg List.length en'
    simp at h1 h2; omega
  apply P_maps_Equal_map_model_place_int_map_model_place_int_model_place_int_of
  unfold P_maps_Equal_map_model_place_int_map_model_place_int_model_place_int
  refine .inl ⟨a, es, cl, rfl, ea, .inl ⟨b, es', cl', rfl, eb, ⟨fun hx => ?_, fun _ => ?_⟩⟩⟩
  · rw [hlen] at hx; simp at hx
  refine ⟨a, es, cl, rfl, ea, fun bi nbi => ?_⟩
  refine xLoop0 (fun h' => h.le h' ∧ ∃ seen : Array Nat, h' bi = some (.mapIter (some a) cl seen cl)) (fun h' => match h' bi with | some (.mapIter _ _ seen _) => leftOf es.toList seen | _ => 0) ?_ ⟨PH.le_upd nbi, #[], PH.upd_same _ _ _⟩
  rintro J h1 ⟨l1, seen, ei⟩ hJ
  refine ⟨a, cl, seen, cl, es, cl, ei, l1 _ _ ea, fun _ hne => st.all hne, fun hov => ?_, fun e he hs => ?_⟩
  · refine ⟨_, rfl, fun hx => (by cases hx), fun _ => ?_⟩
    exact ⟨rfl, l1⟩
  · refine ⟨_, rfl, fun _ => ?_, fun hx => (by cases hx)⟩
    have he' : e ∈ es.toList := by simpa using he
    obtain ⟨p, hp, hk, hv⟩ := en.mem he'
    have l2 : h.le (h1.upd bi (.mapIter (some a) cl (seen.push e.born) cl)) := upd_le_upd nbi l1
    have ei2 := PH.upd_same h1 bi (.mapIter (some a) cl (seen.push e.born) cl)
    have less := left_push he' hs
    generalize h1.upd bi (.mapIter (some a) cl (seen.push e.born) cl) = h2 at l2 ei2 ⊢
    refine ⟨a, cl, seen.push e.born, cl, es, e, e.born, ei2, back_push _ _, l2 _ _ ea, ?_, ?_⟩
    · have := st.find he'
      simpa using this
    rw [hk, hv]
    simp only [key2, encI, oAgg_mk, xNn_some, add_mk, cell_mk, upd_at, del_at, if_true, if_false, Option.bind_some, List.getElem?_toArray, List.getElem?_cons_succ, List.getElem?_cons_zero, oI_some, oS_some, oM_some, oB_some, oP_some, oT_some, xIdx_some, Nat.zero_add, Nat.add_zero, Nat.mul_one]
    refine ⟨rfl, ?_⟩
    intro b5 n5
    refine xSt_mk (PH.upd_same _ _ _) rfl (by decide) (by simp [oneCell]) (by simp) ?_
    rw [PH.upd_upd, setN2]
    have l3 := PH.le_upd (O := .cells #[.int .i64 p.1, .int .i64 p.2.1] 122 (0, 0)) n5
    have e3 := PH.upd_same h2 b5 (.cells #[.int .i64 p.1, .int .i64 p.2.1] 122 (0, 0))
    generalize h2.upd b5 (.cells #[.int .i64 p.1, .int .i64 p.2.1] 122 (0, 0)) = h3 at l3 e3 ⊢
    have l4 := PH.le_trans l2 l3
    simp only [xNn_some, add_mk, cell_mk, upd_at, del_at, if_true, if_false, Option.bind_some, List.getElem?_toArray, List.getElem?_cons_succ, List.getElem?_cons_zero, oI_some, oS_some, oM_some, oB_some, oP_some, oT_some, xIdx_some, Nat.zero_add, Nat.add_zero, Nat.mul_one, e3]
    refine look_rep (MapRep.of rb' (by rw [eb]; exact l4 _ _ eb)) p.1 p.2.1 ?_
    rw [Pl.find_mem ho hp]
    simp only [Option.map_some, Option.getD_some, encI, Option.isSome_some, xNn_some, add_mk, cell_mk, upd_at, del_at, if_true, if_false, Option.bind_some, List.getElem?_toArray, List.getElem?_cons_succ, List.getElem?_cons_zero, oI_some, oS_some, oM_some, oB_some, oP_some, oT_some, xIdx_some, Nat.zero_add, Nat.add_zero, Nat.mul_one]
    refine xSc_or false (fun _ J hJ => ?_) ⟨fun hx => (by cases hx), fun _ => ?_⟩
    · simpa using hJ
    refine hJ _ ⟨l4, seen.push e.born, l3 _ _ ei2⟩ ?_
    rw [l3 _ _ ei2, ei]
    exact less


theorem meets_equal_left {h : PH} {a b : Nat} {l : Pl (Int × Int)} (ra : MapRep encL h a l) (rb : MapRep encL h b l) (ho : Pl.Once l) : Meets Try.prog 56 #[.map (some a), .map (some b)] h fun v h' => v = .bool true ∧ h' = h := by
  apply Meets.same
  have rb' := rb
  obtain ⟨es, cl, ea, en, st⟩ := ra
  obtain ⟨es', cl', eb, en', st'⟩ := rb
  have hlen : es.size = es'.size := by
    have h1 := congrArg List.length en
    have h2 := congrArg List.length en'
    simp at h1 h2; omega
  apply P_maps_Equal_map_model_place_model_left_map_model_place_model_left_model_place_model_left_of
  unfold P_maps_Equal_map_model_place_model_left_map_model_place_model_left_model_place_model_left
  refine .inl ⟨a, es, cl, rfl, ea, .inl ⟨b, es', cl', rfl, eb, ⟨fun hx => ?_, fun _ => ?_⟩⟩⟩
  · rw [hlen] at hx; simp at hx
  refine ⟨a, es, cl, rfl, ea, fun bi nbi => ?_⟩
  refine xLoop0 (fun h' => h.le h' ∧ ∃ seen : Array Nat, h' bi = some (.mapIter (some a) cl seen cl)) (fun h' => match h' bi with | some (.mapIter _ _ seen _) => leftOf es.toList seen | _ => 0) ?_ ⟨PH.le_upd nbi, #[], PH.upd_same _ _ _⟩
  rintro J h1 ⟨l1, seen, ei⟩ hJ
  refine ⟨a, cl, seen, cl, es, cl, ei, l1 _ _ ea, fun _ hne => st.all hne, fun hov => ?_, fun e he hs => ?_⟩
  · refine ⟨_, rfl, fun hx => (by cases hx), fun _ => ?_⟩
    exact ⟨rfl, l1⟩
  · refine ⟨_, rfl, fun _ => ?_, fun hx => (by cases hx)⟩
    have he' : e ∈ es.toList := by simpa using he
    obtain ⟨p, hp, hk, hv⟩ := en.mem he'
    have l2 : h.le (h1.upd bi (.mapIter (some a) cl (seen.push e.born) cl)) := upd_le_upd nbi l1
    have ei2 := PH.upd_same h1 bi (.mapIter (some a) cl (seen.push e.born) cl)
    have less := left_push he' hs
    generalize h1.upd bi (.mapIter (some a) cl (seen.push e.born) cl) = h2 at l2 ei2 ⊢
    refine ⟨a, cl, seen.push e.born, cl, es, e, e.born, ei2, back_push _ _, l2 _ _ ea, ?_, ?_⟩
    · have := st.find he'
      simpa using this
    rw [hk, hv]
    simp only [key2, encL, oAgg_mk, xNn_some, add_mk, cell_mk, upd_at, del_at, if_true, if_false, Option.bind_some, List.getElem?_toArray, List.getElem?_cons_succ, List.getElem?_cons_zero, oI_some, oS_some, oM_some, oB_some, oP_some, oT_some, xIdx_some, Nat.zero_add, Nat.add_zero, Nat.mul_one]
    refine ⟨rfl, rfl, ?_⟩
    intro b5 n5
    intro b6 n6
    obtain ⟨q56, n6'⟩ := upd_none n6
    refine xSt_mk ((PH.upd_ne _ _ q56).trans (PH.upd_same _ _ _)) rfl (by decide) (by simp [oneCell]) (by simp) ?_
    rw [setN2]
    have l3 : h2.le (((h2.upd b5 (.cells #[.int .i64 0, .int .i64 0] 122 (0, 0))).upd b6 (.cells #[.int .i64 0, .int .i64 0] 125 (0, 0))).upd b5 (.cells #[.int .i64 p.1, .int .i64 p.2.1] 122 (0, 0))) := upd_le_upd n5 (upd_le_upd n6' (PH.le_upd n5))
    have e5 := PH.upd_same ((h2.upd b5 (.cells #[.int .i64 0, .int .i64 0] 122 (0, 0))).upd b6 (.cells #[.int .i64 0, .int .i64 0] 125 (0, 0))) b5 (.cells #[.int .i64 p.1, .int .i64 p.2.1] 122 (0, 0))
    have e6 : (((h2.upd b5 (.cells #[.int .i64 0, .int .i64 0] 122 (0, 0))).upd b6 (.cells #[.int .i64 0, .int .i64 0] 125 (0, 0))).upd b5 (.cells #[.int .i64 p.1, .int .i64 p.2.1] 122 (0, 0))) b6 = some (.cells #[.int .i64 0, .int .i64 0] 125 (0, 0)) := (PH.upd_ne _ _ (Ne.symm q56)).trans (PH.upd_same _ _ _)
    generalize (((h2.upd b5 (.cells #[.int .i64 0, .int .i64 0] 122 (0, 0))).upd b6 (.cells #[.int .i64 0, .int .i64 0] 125 (0, 0))).upd b5 (.cells #[.int .i64 p.1, .int .i64 p.2.1] 122 (0, 0))) = h3 at l3 e5 e6 ⊢
    refine xSt_mk e6 rfl (by decide) (by simp [oneCell]) (by simp) ?_
    rw [setN2]
    have l3 := PH.le_trans l3 (show h3.le h3 from PH.le_refl _)
    have l4 : h2.le (h3.upd b6 (.cells #[.int .i64 p.2.2.1, .int .i64 p.2.2.2] 125 (0, 0))) := upd_le_upd n6' l3
    have e5' : (h3.upd b6 (.cells #[.int .i64 p.2.2.1, .int .i64 p.2.2.2] 125 (0, 0))) b5 = _ := (PH.upd_ne _ _ q56).trans e5
    have e6' := PH.upd_same h3 b6 (.cells #[.int .i64 p.2.2.1, .int .i64 p.2.2.2] 125 (0, 0))
    generalize h3.upd b6 (.cells #[.int .i64 p.2.2.1, .int .i64 p.2.2.2] 125 (0, 0)) = h4 at l4 e5' e6' ⊢
    have l5 := PH.le_trans l2 l4
    simp only [xNn_some, add_mk, cell_mk, upd_at, del_at, if_true, if_false, Option.bind_some, List.getElem?_toArray, List.getElem?_cons_succ, List.getElem?_cons_zero, oI_some, oS_some, oM_some, oB_some, oP_some, oT_some, xIdx_some, Nat.zero_add, Nat.add_zero, Nat.mul_one, e5']
    refine look_rep (MapRep.of rb' (by rw [eb]; exact l5 _ _ eb)) p.1 p.2.1 ?_
    rw [Pl.find_mem ho hp]
    simp only [Option.map_some, Option.getD_some, Option.isSome_some, encL, oAgg_mk, xNn_some, add_mk, cell_mk, upd_at, del_at, if_true, if_false, Option.bind_some, List.getElem?_toArray, List.getElem?_cons_succ, List.getElem?_cons_zero, oI_some, oS_some, oM_some, oB_some, oP_some, oT_some, xIdx_some, Nat.zero_add, Nat.add_zero, Nat.mul_one]
    refine ⟨rfl, rfl, ?_⟩
    intro b7 n7
    refine xSt_mk (PH.upd_same _ _ _) rfl (by decide) (by simp [oneCell]) (by simp) ?_
    rw [PH.upd_upd, setN2]
    have l6 := PH.le_upd (O := .cells #[.int .i64 p.2.2.1, .int .i64 p.2.2.2] 125 (0, 0)) n7
    have e7 := PH.upd_same h4 b7 (.cells #[.int .i64 p.2.2.1, .int .i64 p.2.2.2] 125 (0, 0))
    generalize h4.upd b7 (.cells #[.int .i64 p.2.2.1, .int .i64 p.2.2.2] 125 (0, 0)) = h5 at l6 e7 ⊢
    refine xSc_or false (fun _ J hJ => ?_) ⟨fun hx => (by cases hx), fun _ => ?_⟩
    · simp only [xNn_some, add_mk, cell_mk, upd_at, del_at, if_true, if_false, Option.bind_some, List.getElem?_toArray, List.getElem?_cons_succ, List.getElem?_cons_zero, oI_some, oS_some, oM_some, oB_some, oP_some, oT_some, xIdx_some, Nat.zero_add, Nat.add_zero, Nat.mul_one, e7, l6 _ _ e6']
      refine ⟨true, ?_, hJ⟩
      have := eqLaw_ints (P := Try.prog) (t := 125) [.i64, .i64] [p.2.2.1, p.2.2.2] [p.2.2.1, p.2.2.2] (by kernel_rfl) rfl rfl
      rw [show ([p.2.2.1, p.2.2.2] == [p.2.2.1, p.2.2.2]) = true from by simp] at this
      exact this
    have ei5 := l6 _ _ (l4 _ _ ei2)
    refine hJ _ ⟨PH.le_trans l5 l6, seen.push e.born, ei5⟩ ?_
    rw [ei5, ei]
    exact less

theorem meets_Same {h : PH} {L L' : ML} {s : Ms} (r : MRep h L s) (r' : MRep h L' s) (ho : s.Once) : Meets Try.prog 16 #[mp L, mp L'] h fun v h' => v = .bool true ∧ h' = h := by
  apply P_model_Model_Same_of
  unfold P_model_Model_Same
  obtain ⟨c1, c2, cm⟩ := r.cm
  obtain ⟨c3, c4, cm'⟩ := r'.cm
  obtain ⟨j1, co⟩ := r.co
  obtain ⟨j2, co'⟩ := r'.co
  obtain ⟨j3, cf⟩ := r.cf
  obtain ⟨j4, cf'⟩ := r'.cf
  refine (meets_ok r).look ?_
  simp only [oB_some]
  refine xSc_or false (fun _ J hJ => ?_) ⟨fun hx => (by cases hx), fun _ => ?_⟩
  · refine (meets_ok r').look ?_
    simp only [oB_some]
    exact hJ
  refine xDraw_self ?_
  simp only [xNn_some, add_mk, cell_mk, upd_at, del_at, if_true, if_false, Option.bind_some, List.getElem?_toArray, List.getElem?_cons_succ, List.getElem?_cons_zero, oI_some, oS_some, oM_some, oB_some, oP_some, oT_some, xIdx_some, Nat.zero_add, Nat.add_zero, Nat.mul_one, cm, cm']
  refine xSc_and true (fun _ J hJ => ?_) ?_
  · refine (meets_equal_mons co co' r.nm).look ?_
    simp only [oB_some]
    exact ⟨PH.le_refl _, hJ⟩
  refine xSc_and true (fun _ J hJ => ?_) ?_
  · refine (meets_equal_flags cf cf' r.nf).look ?_
    simp only [oB_some]
    exact ⟨PH.le_refl _, hJ⟩
  refine xSc_and true (fun _ J hJ => ?_) ?_
  · refine (meets_equal_waits r.cw r'.cw ho.w).look ?_
    simp only [oB_some]
    exact ⟨PH.le_refl _, hJ⟩
  refine xSc_and true (fun _ J hJ => ?_) ?_
  · refine (meets_equal_left r.cl r'.cl ho.l).look ?_
    simp only [oB_some]
    exact ⟨PH.le_refl _, hJ⟩
  exact ⟨by simp, rfl⟩

end Go.Md

/- The readings of some functions, printed by a program of the session (wip/tools/sx.py): each by one equation that the kernel reckons. -/
set_option linter.unusedVariables false
namespace Go.Proofs.Ytnnedfhpicdacaa
open Go Go.Sx Go.Proofs
/-- futtock/futtocklaw14.ModelErrors -/
def A_law14_ModelErrors : Ann := .seq (.leaf) (.seq (.leaf) (.seq (.seq (.leaf) (.cond [] (.seq (.leaf) (.leaf)) (.leaf))) (.seq (.seq (.leaf) (.block [] (.loop [(23, (.int .i64))] (.seq (.leaf) (.seq (.cond [] (.leaf) (.leaf)) (.seq (.block [] (.seq (.leaf) (.seq (.leaf) (.seq (.leaf) (.seq (.leaf) (.seq (.seq (.leaf) (.cond [] (.seq (.leaf) (.leaf)) (.leaf))) (.seq (.draw [(0, .flt), (1, .flt), (2, .flt), (3, .flt), (4, .flt), (5, .flt), (6, .flt), (7, .flt), (8, .flt), (9, .flt), (10, .flt), (11, .flt), (12, .flt), (13, .flt), (14, .flt), (15, .flt), (16, .eff), (17, .flt), (18, .flt), (19, .flt), (20, .flt), (21, .flt), (22, .eff), (23, .flt), (24, .flt), (25, .flt), (26, .flt), (27, .flt), (29, .flt), (30, .flt), (31, .flt), (28, .eff), (32, .eff), (33, .flt), (34, .flt), (35, .flt), (36, .flt), (37, .flt), (38, .flt), (40, .flt), (41, .flt), (42, .flt), (39, .eff), (43, .eff), (44, .flt), (45, .flt), (46, .flt)]) (.cond [] (.seq (.leaf) (.leaf)) (.leaf))))))))) (.leaf))))))) (.seq (.leaf) (.leaf)))))
def P_law14_ModelErrors (a0a : Option Addr) (a0l : Nat) (a0c : Nat) (h : PH) (Q : Value → PH → Prop) : Prop :=
 Meets Try.prog 11 #[(.int .i64 4), (.int .i64 3), (.int .i64 3)] h fun v11 h_1 =>
 oTup v11 2 fun x11cs =>
 oIx x11cs[0]? fun x11w =>
 oP (some x11w) fun x11_0 =>
 oIx x11cs[1]? fun x11w_1 =>
 oI .i64 (some x11w_1) fun x11_1 =>
 oP (some (.pointer x11_0)) fun x12 =>
 oI .i64 (some (.int .i64 x11_1)) fun x13 =>
 xSc (Option.isNone x12) false (fun J_1 =>
 J_1 (x13 != 0) h_1)
 (fun r19 h_2 =>
 xIte r19 (fun J_2 =>
 Q (.bool false) h_2)
 (fun J_2 =>
 J_2 h_2)
 (fun  (h_3 : PH) =>
 Meets Try.prog 12 #[(.slice a0a a0l a0c)] h_3 fun v21 h_4 =>
 oS (some v21) fun x21a x21l x21c =>
 xBlk (fun J_3 =>
 ∃ n, xLoopN (fun _ _ => False) (fun J_4 =>
 (fun (x23 : Int) (h_5 : PH) =>
 xIte (decide ((x23 : Int) < ((x21l : Nat) : Int))) (fun J_5 =>
 J_5 h_5)
 (fun J_5 =>
 J_3 h_5)
 (fun  (h_6 : PH) =>
 xBlk (fun J_6 =>
 xIdx x21a x21l x23 5 fun x25 =>
 oI .i64 (h_6.cell (x25.add 0)) fun x26_0 =>
 oI .i64 (h_6.cell (x25.add 1)) fun x26_1 =>
 oI .i64 (h_6.cell (x25.add 2)) fun x26_2 =>
 oI .i64 (h_6.cell (x25.add 3)) fun x26_3 =>
 oI .i64 (h_6.cell (x25.add 4)) fun x26_4 =>
 xNew h_6 (.cells #[(.int .i64 0), (.int .i64 0), (.int .i64 0), (.int .i64 0), (.int .i64 0)] 29 (0, 0)) fun b6 h_7 =>
 xSt 5 h_7 (⟨b6, 0, none⟩ : Addr) [(.int .i64 x26_0), (.int .i64 x26_1), (.int .i64 x26_2), (.int .i64 x26_3), (.int .i64 x26_4)] fun h_8 =>
 Meets Try.prog 13 #[(.pointer x12)] h_8 fun v28 h_9 =>
 oP (some v28) fun x28 =>
 oI .i64 (h_9.cell ((⟨b6, 0, none⟩ : Addr).add 0)) fun x30_0 =>
 oI .i64 (h_9.cell ((⟨b6, 0, none⟩ : Addr).add 1)) fun x30_1 =>
 oI .i64 (h_9.cell ((⟨b6, 0, none⟩ : Addr).add 2)) fun x30_2 =>
 oI .i64 (h_9.cell ((⟨b6, 0, none⟩ : Addr).add 3)) fun x30_3 =>
 oI .i64 (h_9.cell ((⟨b6, 0, none⟩ : Addr).add 4)) fun x30_4 =>
 Meets Try.prog 15 #[(.agg #[(.int .i64 x30_0), (.int .i64 x30_1), (.int .i64 x30_2), (.int .i64 x30_3), (.int .i64 x30_4)])] h_9 fun v31 h_10 =>
 oAgg v31 5 fun x31cs =>
 oI .i64 x31cs[0]? fun x31_0 =>
 oI .i64 x31cs[1]? fun x31_1 =>
 oI .i64 x31cs[2]? fun x31_2 =>
 oI .i64 x31cs[3]? fun x31_3 =>
 oI .i64 x31cs[4]? fun x31_4 =>
 Meets Try.prog 14 #[(.pointer x12), (.agg #[(.int .i64 x31_0), (.int .i64 x31_1), (.int .i64 x31_2), (.int .i64 x31_3), (.int .i64 x31_4)])] h_10 fun v32 h_11 =>
 oI .i64 (some v32) fun x32 =>
 oI .i64 (h_11.cell ((⟨b6, 0, none⟩ : Addr).add 4)) fun x34 =>
 xSc (x34 == 9) false (fun J_7 =>
 oI .i64 (h_11.cell ((⟨b6, 0, none⟩ : Addr).add 4)) fun x38 =>
 J_7 (x38 == 10) h_11)
 (fun r40 h_12 =>
 xSc r40 false (fun J_8 =>
 oI .i64 (h_12.cell ((⟨b6, 0, none⟩ : Addr).add 4)) fun x43 =>
 J_8 (x43 == 14) h_12)
 (fun r45 h_13 =>
 xSc r45 false (fun J_9 =>
 oI .i64 (h_13.cell ((⟨b6, 0, none⟩ : Addr).add 4)) fun x48 =>
 J_9 (x48 == 11) h_13)
 (fun r50 h_14 =>
 xSc (x32 != 0) false (fun J_10 =>
 J_10 r50 h_14)
 (fun r55 h_15 =>
 xSc r55 true (fun J_11 =>
 Meets Try.prog 16 #[(.pointer x12), (.pointer x28)] h_15 fun v59 h_16 =>
 oB (some v59) fun x59 =>
 J_11 (!x59) h_16)
 (fun r61 h_17 =>
 xIte r61 (fun J_12 =>
 Q (.bool false) h_17)
 (fun J_12 =>
 J_12 h_17)
 (fun  (h_18 : PH) =>
 xDraw h_18 fun hs_1 =>
 xSc (x32 == 0) true (fun J_13 =>
 oI .i64 (hs_1.cell ((⟨b6, 0, none⟩ : Addr).add 0)) fun x66 =>
 J_13 (x66 == 4) h_18)
 (fun r68 h_19 =>
 xSc r68 true (fun J_14 =>
 oI .i64 (hs_1.cell ((⟨b6, 0, none⟩ : Addr).add 4)) fun x71 =>
 J_14 (x71 == 12) h_19)
 (fun r73 h_20 =>
 xSc r73 true (fun J_15 =>
 oI .i64 (hs_1.cell ((⟨b6, 0, none⟩ : Addr).add 1)) fun x77 =>
 Meets Try.prog 17 #[(.pointer x28), (.int .i64 x77)] h_20 fun v78 h_21 =>
 oB (some v78) fun x78 =>
 PH.le hs_1 h_21 ∧
 xSc (!x78) false (fun J_16 =>
 oI .i64 (hs_1.cell ((⟨b6, 0, none⟩ : Addr).add 1)) fun x83 =>
 Meets Try.prog 17 #[(.pointer x12), (.int .i64 x83)] h_21 fun v84 h_22 =>
 oB (some v84) fun x84 =>
 PH.le hs_1 h_22 ∧
 J_16 x84 h_22)
 (fun r85 h_23 =>
 xSc r85 false (fun J_17 =>
 oI .i64 (hs_1.cell ((⟨b6, 0, none⟩ : Addr).add 2)) fun x89 =>
 oI .i64 (hs_1.cell ((⟨b6, 0, none⟩ : Addr).add 2)) fun x93 =>
 Meets Try.prog 18 #[(.pointer x12), (.int .i64 x89)] h_23 fun v90 h_24 =>
 oI .i64 (some v90) fun x90 =>
 PH.le hs_1 h_24 ∧
 Meets Try.prog 18 #[(.pointer x28), (.int .i64 x93)] h_24 fun v94 h_25 =>
 oI .i64 (some v94) fun x94 =>
 PH.le hs_1 h_25 ∧
 J_17 (x90 != x94) h_25)
 (fun r96 h_26 =>
 xSc r96 false (fun J_18 =>
 oI .i64 (hs_1.cell ((⟨b6, 0, none⟩ : Addr).add 2)) fun x100 =>
 oI .i64 (hs_1.cell ((⟨b6, 0, none⟩ : Addr).add 2)) fun x104 =>
 Meets Try.prog 19 #[(.pointer x12), (.int .i64 x100)] h_26 fun v101 h_27 =>
 oI .i64 (some v101) fun x101 =>
 PH.le hs_1 h_27 ∧
 Meets Try.prog 19 #[(.pointer x28), (.int .i64 x104)] h_27 fun v105 h_28 =>
 oI .i64 (some v105) fun x105 =>
 PH.le hs_1 h_28 ∧
 J_18 (x101 != x105) h_28)
 (fun r107 h_29 =>
 J_15 r107 h_29) h_26) h_23) h_21)
 (fun r108 h_30 =>
 xIte r108 (fun J_19 =>
 Q (.bool false) h_30)
 (fun J_19 =>
 J_19 h_30)
 (fun  (h_31 : PH) =>
 J_6 h_31)) h_20) h_19) h_18)) h_15) h_14) h_13) h_12) h_11)
 (fun  (h_32 : PH) =>
 J_4 (IntKind.wrap .i64 (x23 + 1)) h_32)))) n 0 h_4)
 (fun  (h_33 : PH) =>
 Meets Try.prog 20 #[] h_33 fun v110 h_34 =>
 oB (some v110) fun x110 =>
 Q (.bool x110) h_34))) h_1
theorem P_law14_ModelErrors_eq (a0a : Option Addr) (a0l : Nat) (a0c : Nat) (h : PH) (Q : Value → PH → Prop) : dFn Try.prog Try.f3 A_law14_ModelErrors #[(.slice a0a a0l a0c)] h Q = P_law14_ModelErrors a0a a0l a0c h Q := by kernel_rfl
theorem P_law14_ModelErrors_of {a0a : Option Addr} {a0l : Nat} {a0c : Nat} {h : PH} {Q : Value → PH → Prop} (x : P_law14_ModelErrors a0a a0l a0c h Q) : Meets Try.prog 3 #[(.slice a0a a0l a0c)] h Q :=
  spec_of Try.func3 mix (by kernel_rfl) ((P_law14_ModelErrors_eq a0a a0l a0c h Q).symm ▸ x)
/-- futtock/futtocklaw14.ModelClones -/
def A_law14_ModelClones : Ann := .seq (.leaf) (.seq (.seq (.leaf) (.block [] (.loop [(19, (.int .i64))] (.seq (.leaf) (.seq (.cond [] (.leaf) (.leaf)) (.seq (.block [] (.seq (.leaf) (.seq (.leaf) (.cond [] (.seq (.leaf) (.leaf)) (.leaf))))) (.leaf))))))) (.seq (.leaf) (.seq (.seq (.leaf) (.cond [] (.seq (.leaf) (.leaf)) (.leaf))) (.seq (.seq (.leaf) (.block [] (.loop [(80, (.int .i64))] (.seq (.leaf) (.seq (.cond [] (.leaf) (.leaf)) (.seq (.block [] (.seq (.leaf) (.leaf))) (.leaf))))))) (.seq (.leaf) (.seq (.seq (.leaf) (.cond [] (.seq (.leaf) (.leaf)) (.leaf))) (.seq (.seq (.leaf) (.block [] (.loop [(106, (.int .i64))] (.seq (.leaf) (.seq (.cond [] (.leaf) (.leaf)) (.seq (.block [] (.seq (.leaf) (.seq (.draw [(0, .flt), (1, .flt), (4, .flt), (5, .flt), (2, .eff), (3, .eff), (6, .eff), (7, .eff), (8, .flt), (9, .flt), (10, .flt), (11, .flt), (12, .eff), (13, .flt), (14, .flt)]) (.cond [] (.seq (.leaf) (.leaf)) (.leaf))))) (.leaf))))))) (.seq (.leaf) (.seq (.leaf) (.leaf))))))))))
def P_law14_ModelClones (a0a : Option Addr) (a0l : Nat) (a0c : Nat) (a1a : Option Addr) (a1l : Nat) (a1c : Nat) (h : PH) (Q : Value → PH → Prop) : Prop :=
 xNew h (.cells #[(.int .i64 0), (.slice none 0 0), (.slice none 0 0), (.map none), (.map none)] 45 (0, 0)) fun b16 h_1 =>
 xNew h_1 (.cells #[(.pointer none), (.pointer (some (⟨b16, 0, none⟩ : Addr)))] 23 (0, 0)) fun b17 h_2 =>
 xBlk (fun J_1 =>
 ∃ n, xLoopN (fun _ _ => False) (fun J_2 =>
 (fun (x19 : Int) (h_3 : PH) =>
 xIte (decide ((x19 : Int) < ((2 : Nat) : Int))) (fun J_3 =>
 J_3 h_3)
 (fun J_3 =>
 J_1 h_3)
 (fun  (h_4 : PH) =>
 xBlk (fun J_4 =>
 xIdx (some (⟨b17, 0, none⟩ : Addr)) 2 x19 1 fun x21 =>
 oP (h_4.cell x21) fun x22 =>
 Meets Try.prog 14 #[(.pointer x22), (.agg #[(.int .i64 1), (.int .i64 0), (.int .i64 0), (.int .i64 0), (.int .i64 0)])] h_4 fun v25 h_5 =>
 oI .i64 (some v25) fun x25 =>
 xSc (x25 != 15) false (fun J_5 =>
 Meets Try.prog 18 #[(.pointer x22), (.int .i64 0)] h_5 fun v29 h_6 =>
 oI .i64 (some v29) fun x29 =>
 J_5 (x29 != (-1)) h_6)
 (fun r31 h_7 =>
 xSc r31 false (fun J_6 =>
 Meets Try.prog 19 #[(.pointer x22), (.int .i64 0)] h_7 fun v34 h_8 =>
 oI .i64 (some v34) fun x34 =>
 Meets Try.prog 21 #[(.pointer x22), (.int .i64 0)] h_8 fun v36 h_9 =>
 oI .i64 (some v36) fun x36 =>
 Meets Try.prog 22 #[(.pointer x22), (.int .i64 0)] h_9 fun v39 h_10 =>
 oS (some v39) fun x39a x39l x39c =>
 Meets Try.prog 23 #[(.pointer x22), (.int .i64 0)] h_10 fun v43 h_11 =>
 oS (some v43) fun x43a x43l x43c =>
 J_6 ((IntKind.wrap .i64 ((IntKind.wrap .i64 ((IntKind.wrap .i64 (x34 + x36)) + ((x39l : Nat) : Int))) + ((x43l : Nat) : Int))) != 0) h_11)
 (fun r47 h_12 =>
 xSc r47 false (fun J_7 =>
 Meets Try.prog 17 #[(.pointer x22), (.int .i64 0)] h_12 fun v50 h_13 =>
 oB (some v50) fun x50 =>
 J_7 x50 h_13)
 (fun r51 h_14 =>
 xSc r51 false (fun J_8 =>
 Meets Try.prog 13 #[(.pointer x22)] h_14 fun v54 h_15 =>
 oP (some v54) fun x54 =>
 J_8 (!(Option.isNone x54)) h_15)
 (fun r56 h_16 =>
 xSc r56 false (fun J_9 =>
 Meets Try.prog 16 #[(.pointer x22), (.pointer none)] h_16 fun v59 h_17 =>
 oB (some v59) fun x59 =>
 J_9 (!x59) h_17)
 (fun r61 h_18 =>
 xIte r61 (fun J_10 =>
 Q (.bool false) h_18)
 (fun J_10 =>
 J_10 h_18)
 (fun  (h_19 : PH) =>
 J_4 h_19)) h_16) h_14) h_12) h_7) h_5)
 (fun  (h_20 : PH) =>
 J_2 (IntKind.wrap .i64 (x19 + 1)) h_20)))) n 0 h_2)
 (fun  (h_21 : PH) =>
 Meets Try.prog 11 #[(.int .i64 4), (.int .i64 3), (.int .i64 3)] h_21 fun v64 h_22 =>
 oTup v64 2 fun x64cs =>
 oIx x64cs[0]? fun x64w =>
 oP (some x64w) fun x64_0 =>
 oIx x64cs[1]? fun x64w_1 =>
 oI .i64 (some x64w_1) fun x64_1 =>
 oP (some (.pointer x64_0)) fun x65 =>
 oI .i64 (some (.int .i64 x64_1)) fun x66 =>
 xSc (Option.isNone x65) false (fun J_11 =>
 J_11 (x66 != 0) h_22)
 (fun r72 h_23 =>
 xSc r72 false (fun J_12 =>
 Meets Try.prog 16 #[(.pointer x65), (.pointer none)] h_23 fun v75 h_24 =>
 oB (some v75) fun x75 =>
 J_12 x75 h_24)
 (fun r76 h_25 =>
 xIte r76 (fun J_13 =>
 Q (.bool false) h_25)
 (fun J_13 =>
 J_13 h_25)
 (fun  (h_26 : PH) =>
 Meets Try.prog 12 #[(.slice a0a a0l a0c)] h_26 fun v78 h_27 =>
 oS (some v78) fun x78a x78l x78c =>
 xBlk (fun J_14 =>
 ∃ n_1, xLoopN (fun _ _ => False) (fun J_15 =>
 (fun (x80 : Int) (h_28 : PH) =>
 xIte (decide ((x80 : Int) < ((x78l : Nat) : Int))) (fun J_16 =>
 J_16 h_28)
 (fun J_16 =>
 J_14 h_28)
 (fun  (h_29 : PH) =>
 xBlk (fun J_17 =>
 xIdx x78a x78l x80 5 fun x82 =>
 oI .i64 (h_29.cell (x82.add 0)) fun x83_0 =>
 oI .i64 (h_29.cell (x82.add 1)) fun x83_1 =>
 oI .i64 (h_29.cell (x82.add 2)) fun x83_2 =>
 oI .i64 (h_29.cell (x82.add 3)) fun x83_3 =>
 oI .i64 (h_29.cell (x82.add 4)) fun x83_4 =>
 xNew h_29 (.cells #[(.int .i64 0), (.int .i64 0), (.int .i64 0), (.int .i64 0), (.int .i64 0)] 29 (0, 0)) fun b10 h_30 =>
 xSt 5 h_30 (⟨b10, 0, none⟩ : Addr) [(.int .i64 x83_0), (.int .i64 x83_1), (.int .i64 x83_2), (.int .i64 x83_3), (.int .i64 x83_4)] fun h_31 =>
 oI .i64 (h_31.cell ((⟨b10, 0, none⟩ : Addr).add 0)) fun x85_0 =>
 oI .i64 (h_31.cell ((⟨b10, 0, none⟩ : Addr).add 1)) fun x85_1 =>
 oI .i64 (h_31.cell ((⟨b10, 0, none⟩ : Addr).add 2)) fun x85_2 =>
 oI .i64 (h_31.cell ((⟨b10, 0, none⟩ : Addr).add 3)) fun x85_3 =>
 oI .i64 (h_31.cell ((⟨b10, 0, none⟩ : Addr).add 4)) fun x85_4 =>
 Meets Try.prog 15 #[(.agg #[(.int .i64 x85_0), (.int .i64 x85_1), (.int .i64 x85_2), (.int .i64 x85_3), (.int .i64 x85_4)])] h_31 fun v86 h_32 =>
 oAgg v86 5 fun x86cs =>
 oI .i64 x86cs[0]? fun x86_0 =>
 oI .i64 x86cs[1]? fun x86_1 =>
 oI .i64 x86cs[2]? fun x86_2 =>
 oI .i64 x86cs[3]? fun x86_3 =>
 oI .i64 x86cs[4]? fun x86_4 =>
 Meets Try.prog 14 #[(.pointer x65), (.agg #[(.int .i64 x86_0), (.int .i64 x86_1), (.int .i64 x86_2), (.int .i64 x86_3), (.int .i64 x86_4)])] h_32 fun v87 h_33 =>
 oI .i64 (some v87) fun x87 =>
 J_17 h_33)
 (fun  (h_34 : PH) =>
 J_15 (IntKind.wrap .i64 (x80 + 1)) h_34)))) n_1 0 h_27)
 (fun  (h_35 : PH) =>
 Meets Try.prog 13 #[(.pointer x65)] h_35 fun v90 h_36 =>
 oP (some v90) fun x90 =>
 Meets Try.prog 13 #[(.pointer x65)] h_36 fun v92 h_37 =>
 oP (some v92) fun x92 =>
 Meets Try.prog 16 #[(.pointer x90), (.pointer x65)] h_37 fun v95 h_38 =>
 oB (some v95) fun x95 =>
 xSc (!x95) false (fun J_18 =>
 Meets Try.prog 16 #[(.pointer x65), (.pointer x92)] h_38 fun v100 h_39 =>
 oB (some v100) fun x100 =>
 J_18 (!x100) h_39)
 (fun r102 h_40 =>
 xIte r102 (fun J_19 =>
 Q (.bool false) h_40)
 (fun J_19 =>
 J_19 h_40)
 (fun  (h_41 : PH) =>
 Meets Try.prog 12 #[(.slice a1a a1l a1c)] h_41 fun v104 h_42 =>
 oS (some v104) fun x104a x104l x104c =>
 xBlk (fun J_20 =>
 ∃ n_2, xLoopN (fun _ _ => False) (fun J_21 =>
 (fun (x106 : Int) (h_43 : PH) =>
 xIte (decide ((x106 : Int) < ((x104l : Nat) : Int))) (fun J_22 =>
 J_22 h_43)
 (fun J_22 =>
 J_20 h_43)
 (fun  (h_44 : PH) =>
 xBlk (fun J_23 =>
 xIdx x104a x104l x106 5 fun x108 =>
 oI .i64 (h_44.cell (x108.add 0)) fun x109_0 =>
 oI .i64 (h_44.cell (x108.add 1)) fun x109_1 =>
 oI .i64 (h_44.cell (x108.add 2)) fun x109_2 =>
 oI .i64 (h_44.cell (x108.add 3)) fun x109_3 =>
 oI .i64 (h_44.cell (x108.add 4)) fun x109_4 =>
 xNew h_44 (.cells #[(.int .i64 0), (.int .i64 0), (.int .i64 0), (.int .i64 0), (.int .i64 0)] 29 (0, 0)) fun b14 h_45 =>
 xSt 5 h_45 (⟨b14, 0, none⟩ : Addr) [(.int .i64 x109_0), (.int .i64 x109_1), (.int .i64 x109_2), (.int .i64 x109_3), (.int .i64 x109_4)] fun h_46 =>
 xDraw h_46 fun hs_1 =>
 oI .i64 (hs_1.cell ((⟨b14, 0, none⟩ : Addr).add 0)) fun x111_0 =>
 oI .i64 (hs_1.cell ((⟨b14, 0, none⟩ : Addr).add 1)) fun x111_1 =>
 oI .i64 (hs_1.cell ((⟨b14, 0, none⟩ : Addr).add 2)) fun x111_2 =>
 oI .i64 (hs_1.cell ((⟨b14, 0, none⟩ : Addr).add 3)) fun x111_3 =>
 oI .i64 (hs_1.cell ((⟨b14, 0, none⟩ : Addr).add 4)) fun x111_4 =>
 oI .i64 (hs_1.cell ((⟨b14, 0, none⟩ : Addr).add 0)) fun x115_0 =>
 oI .i64 (hs_1.cell ((⟨b14, 0, none⟩ : Addr).add 1)) fun x115_1 =>
 oI .i64 (hs_1.cell ((⟨b14, 0, none⟩ : Addr).add 2)) fun x115_2 =>
 oI .i64 (hs_1.cell ((⟨b14, 0, none⟩ : Addr).add 3)) fun x115_3 =>
 oI .i64 (hs_1.cell ((⟨b14, 0, none⟩ : Addr).add 4)) fun x115_4 =>
 Meets Try.prog 15 #[(.agg #[(.int .i64 x111_0), (.int .i64 x111_1), (.int .i64 x111_2), (.int .i64 x111_3), (.int .i64 x111_4)])] h_46 fun v112 h_47 =>
 oAgg v112 5 fun x112cs =>
 oI .i64 x112cs[0]? fun x112_0 =>
 oI .i64 x112cs[1]? fun x112_1 =>
 oI .i64 x112cs[2]? fun x112_2 =>
 oI .i64 x112cs[3]? fun x112_3 =>
 oI .i64 x112cs[4]? fun x112_4 =>
 PH.le hs_1 h_47 ∧
 Meets Try.prog 14 #[(.pointer x90), (.agg #[(.int .i64 x112_0), (.int .i64 x112_1), (.int .i64 x112_2), (.int .i64 x112_3), (.int .i64 x112_4)])] h_47 fun v113 h_48 =>
 oI .i64 (some v113) fun x113 =>
 PH.le hs_1 h_48 ∧
 Meets Try.prog 15 #[(.agg #[(.int .i64 x115_0), (.int .i64 x115_1), (.int .i64 x115_2), (.int .i64 x115_3), (.int .i64 x115_4)])] h_48 fun v116 h_49 =>
 oAgg v116 5 fun x116cs =>
 oI .i64 x116cs[0]? fun x116_0 =>
 oI .i64 x116cs[1]? fun x116_1 =>
 oI .i64 x116cs[2]? fun x116_2 =>
 oI .i64 x116cs[3]? fun x116_3 =>
 oI .i64 x116cs[4]? fun x116_4 =>
 PH.le hs_1 h_49 ∧
 Meets Try.prog 14 #[(.pointer x92), (.agg #[(.int .i64 x116_0), (.int .i64 x116_1), (.int .i64 x116_2), (.int .i64 x116_3), (.int .i64 x116_4)])] h_49 fun v117 h_50 =>
 oI .i64 (some v117) fun x117 =>
 PH.le hs_1 h_50 ∧
 xSc (x113 != x117) false (fun J_24 =>
 Meets Try.prog 16 #[(.pointer x90), (.pointer x92)] h_50 fun v122 h_51 =>
 oB (some v122) fun x122 =>
 PH.le hs_1 h_51 ∧
 J_24 (!x122) h_51)
 (fun r124 h_52 =>
 xIte r124 (fun J_25 =>
 Q (.bool false) h_52)
 (fun J_25 =>
 J_25 h_52)
 (fun  (h_53 : PH) =>
 J_23 h_53)) h_50)
 (fun  (h_54 : PH) =>
 J_21 (IntKind.wrap .i64 (x106 + 1)) h_54)))) n_2 0 h_42)
 (fun  (h_55 : PH) =>
 Meets Try.prog 14 #[(.pointer x90), (.agg #[(.int .i64 12), (.int .i64 0), (.int .i64 0), (.int .i64 1), (.int .i64 0)])] h_55 fun v128 h_56 =>
 oI .i64 (some v128) fun x128 =>
 Meets Try.prog 13 #[(.pointer x65)] h_56 fun v131 h_57 =>
 oP (some v131) fun x131 =>
 Meets Try.prog 16 #[(.pointer x65), (.pointer x131)] h_57 fun v132 h_58 =>
 oB (some v132) fun x132 =>
 xSc x132 true (fun J_26 =>
 Meets Try.prog 20 #[] h_58 fun v134 h_59 =>
 oB (some v134) fun x134 =>
 J_26 x134 h_59)
 (fun r135 h_60 =>
 Q (.bool r135) h_60) h_58))) h_38))) h_23) h_22)
theorem P_law14_ModelClones_eq (a0a : Option Addr) (a0l : Nat) (a0c : Nat) (a1a : Option Addr) (a1l : Nat) (a1c : Nat) (h : PH) (Q : Value → PH → Prop) : dFn Try.prog Try.f4 A_law14_ModelClones #[(.slice a0a a0l a0c), (.slice a1a a1l a1c)] h Q = P_law14_ModelClones a0a a0l a0c a1a a1l a1c h Q := by kernel_rfl
theorem P_law14_ModelClones_of {a0a : Option Addr} {a0l : Nat} {a0c : Nat} {a1a : Option Addr} {a1l : Nat} {a1c : Nat} {h : PH} {Q : Value → PH → Prop} (x : P_law14_ModelClones a0a a0l a0c a1a a1l a1c h Q) : Meets Try.prog 4 #[(.slice a0a a0l a0c), (.slice a1a a1l a1c)] h Q :=
  spec_of Try.func4 mix (by kernel_rfl) ((P_law14_ModelClones_eq a0a a0l a0c a1a a1l a1c h Q).symm ▸ x)
/-- futtock/futtocklaw14.short -/
def A_law14_short : Ann := .seq (.leaf) (.seq (.leaf) (.leaf))
def P_law14_short (a0a : Option Addr) (a0l : Nat) (a0c : Nat) (h : PH) (Q : Value → PH → Prop) : Prop :=
 xSlice a0a a0l a0c 5 none (some (if 200 < ((a0l : Nat) : Int) then 200 else ((a0l : Nat) : Int))) fun x7a x7l x7c =>
 Q (.slice x7a x7l x7c) h
theorem P_law14_short_eq (a0a : Option Addr) (a0l : Nat) (a0c : Nat) (h : PH) (Q : Value → PH → Prop) : dFn Try.prog Try.f12 A_law14_short #[(.slice a0a a0l a0c)] h Q = P_law14_short a0a a0l a0c h Q := by kernel_rfl
theorem P_law14_short_of {a0a : Option Addr} {a0l : Nat} {a0c : Nat} {h : PH} {Q : Value → PH → Prop} (x : P_law14_short a0a a0l a0c h Q) : Meets Try.prog 12 #[(.slice a0a a0l a0c)] h Q :=
  spec_of Try.func12 mix (by kernel_rfl) ((P_law14_short_eq a0a a0l a0c h Q).symm ▸ x)
/-- futtock/futtocklaw14.theirs -/
def A_law14_theirs : Ann := .seq (.leaf) (.seq (.leaf) (.leaf))
def P_law14_theirs (a0_0 : Int) (a0_1 : Int) (a0_2 : Int) (a0_3 : Int) (a0_4 : Int) (h : PH) (Q : Value → PH → Prop) : Prop :=
 xNew h (.cells #[(.int .i64 a0_0), (.int .i64 a0_1), (.int .i64 a0_2), (.int .i64 a0_3), (.int .i64 a0_4)] 29 (0, 0)) fun b1 h_1 =>
 xNew h_1 (.cells #[(.int .i64 0), (.int .i64 0), (.int .i64 0), (.int .i64 0), (.int .i64 0)] 33 (0, 0)) fun b2 h_2 =>
 oI .i64 (h_2.cell ((⟨b1, 0, none⟩ : Addr).add 0)) fun x4 =>
 oI .i64 (h_2.cell ((⟨b1, 0, none⟩ : Addr).add 1)) fun x6 =>
 oI .i64 (h_2.cell ((⟨b1, 0, none⟩ : Addr).add 2)) fun x8 =>
 oI .i64 (h_2.cell ((⟨b1, 0, none⟩ : Addr).add 3)) fun x10 =>
 oI .i64 (h_2.cell ((⟨b1, 0, none⟩ : Addr).add 4)) fun x12 =>
 xSt 5 h_2 (⟨b2, 0, none⟩ : Addr) [(.int .i64 x4), (.int .i64 x6), (.int .i64 x8), (.int .i64 x10), (.int .i64 x12)] fun h_3 =>
 oI .i64 (h_3.cell ((⟨b2, 0, none⟩ : Addr).add 0)) fun y2_0 =>
 oI .i64 (h_3.cell ((⟨b2, 0, none⟩ : Addr).add 1)) fun y2_1 =>
 oI .i64 (h_3.cell ((⟨b2, 0, none⟩ : Addr).add 2)) fun y2_2 =>
 oI .i64 (h_3.cell ((⟨b2, 0, none⟩ : Addr).add 3)) fun y2_3 =>
 oI .i64 (h_3.cell ((⟨b2, 0, none⟩ : Addr).add 4)) fun y2_4 =>
 Q (.agg #[(.int .i64 y2_0), (.int .i64 y2_1), (.int .i64 y2_2), (.int .i64 y2_3), (.int .i64 y2_4)]) h_3
theorem P_law14_theirs_eq (a0_0 : Int) (a0_1 : Int) (a0_2 : Int) (a0_3 : Int) (a0_4 : Int) (h : PH) (Q : Value → PH → Prop) : dFn Try.prog Try.f15 A_law14_theirs #[(.agg #[(.int .i64 a0_0), (.int .i64 a0_1), (.int .i64 a0_2), (.int .i64 a0_3), (.int .i64 a0_4)])] h Q = P_law14_theirs a0_0 a0_1 a0_2 a0_3 a0_4 h Q := by kernel_rfl
theorem P_law14_theirs_of {a0_0 : Int} {a0_1 : Int} {a0_2 : Int} {a0_3 : Int} {a0_4 : Int} {h : PH} {Q : Value → PH → Prop} (x : P_law14_theirs a0_0 a0_1 a0_2 a0_3 a0_4 h Q) : Meets Try.prog 15 #[(.agg #[(.int .i64 a0_0), (.int .i64 a0_1), (.int .i64 a0_2), (.int .i64 a0_3), (.int .i64 a0_4)])] h Q :=
  spec_of Try.func15 mix (by kernel_rfl) ((P_law14_theirs_eq a0_0 a0_1 a0_2 a0_3 a0_4 h Q).symm ▸ x)
/-- futtock/futtocklaw14.alive -/
def A_law14_alive : Ann := .seq (.leaf) (.seq (.leaf) (.seq (.seq (.leaf) (.cond [] (.seq (.leaf) (.leaf)) (.leaf))) (.seq (.leaf) (.leaf))))
def P_law14_alive  (h : PH) (Q : Value → PH → Prop) : Prop :=
 Meets Try.prog 11 #[(.int .i64 2), (.int .i64 1), (.int .i64 3)] h fun v4 h_1 =>
 oTup v4 2 fun x4cs =>
 oIx x4cs[0]? fun x4w =>
 oP (some x4w) fun x4_0 =>
 oIx x4cs[1]? fun x4w_1 =>
 oI .i64 (some x4w_1) fun x4_1 =>
 oP (some (.pointer x4_0)) fun x5 =>
 oI .i64 (some (.int .i64 x4_1)) fun x6 =>
 xSc (Option.isNone x5) false (fun J_1 =>
 J_1 (x6 != 0) h_1)
 (fun r12 h_2 =>
 xSc r12 false (fun J_2 =>
 Meets Try.prog 14 #[(.pointer x5), (.agg #[(.int .i64 1), (.int .i64 0), (.int .i64 0), (.int .i64 0), (.int .i64 0)])] h_2 fun v16 h_3 =>
 oI .i64 (some v16) fun x16 =>
 J_2 (x16 != 0) h_3)
 (fun r18 h_4 =>
 xSc r18 false (fun J_3 =>
 Meets Try.prog 18 #[(.pointer x5), (.int .i64 0)] h_4 fun v21 h_5 =>
 oI .i64 (some v21) fun x21 =>
 J_3 (x21 != 0) h_5)
 (fun r23 h_6 =>
 xSc r23 false (fun J_4 =>
 Meets Try.prog 19 #[(.pointer x5), (.int .i64 0)] h_6 fun v26 h_7 =>
 oI .i64 (some v26) fun x26 =>
 J_4 (x26 != 1) h_7)
 (fun r28 h_8 =>
 xIte r28 (fun J_5 =>
 Q (.bool false) h_8)
 (fun J_5 =>
 J_5 h_8)
 (fun  (h_9 : PH) =>
 Meets Try.prog 14 #[(.pointer x5), (.agg #[(.int .i64 1), (.int .i64 1), (.int .i64 0), (.int .i64 0), (.int .i64 0)])] h_9 fun v31 h_10 =>
 oI .i64 (some v31) fun x31 =>
 xSc (x31 == 15) true (fun J_6 =>
 Meets Try.prog 14 #[(.pointer x5), (.agg #[(.int .i64 3), (.int .i64 0), (.int .i64 0), (.int .i64 0), (.int .i64 0)])] h_10 fun v36 h_11 =>
 oI .i64 (some v36) fun x36 =>
 J_6 (x36 == 0) h_11)
 (fun r38 h_12 =>
 xSc r38 true (fun J_7 =>
 Meets Try.prog 18 #[(.pointer x5), (.int .i64 0)] h_12 fun v41 h_13 =>
 oI .i64 (some v41) fun x41 =>
 J_7 (x41 == (-1)) h_13)
 (fun r43 h_14 =>
 Q (.bool r43) h_14) h_12) h_10)) h_6) h_4) h_2) h_1
theorem P_law14_alive_eq  (h : PH) (Q : Value → PH → Prop) : dFn Try.prog Try.f20 A_law14_alive #[] h Q = P_law14_alive  h Q := by kernel_rfl
theorem P_law14_alive_of  {h : PH} {Q : Value → PH → Prop} (x : P_law14_alive  h Q) : Meets Try.prog 20 #[] h Q :=
  spec_of Try.func20 mix (by kernel_rfl) ((P_law14_alive_eq  h Q).symm ▸ x)
end Go.Proofs.Ytnnedfhpicdacaa

/-
  What the statements of layer 14 share: events that come in, 'short', 'theirs', 'alive'.
-/
set_option linter.unusedSimpArgs false
set_option linter.unusedVariables false
namespace Go.Md
open Go Go.Sx Go.Proofs Go.Proofs.Ytnnedfhpicdacaa

/-- Events in a row, wherever. -/
structure EvsAt (h : PH) (a : Option Addr) (l : List Ev) : Prop where
  at_ : ∀ i e, l[i]? = some e → ∃ b, a = some b ∧ h.cell ((b.add (i * 5)).add 0) = some (.int .i64 e.kind) ∧ h.cell ((b.add (i * 5)).add 1) = some (.int .i64 e.thread) ∧ h.cell ((b.add (i * 5)).add 2) = some (.int .i64 e.obj) ∧
    h.cell ((b.add (i * 5)).add 3) = some (.int .i64 e.arg) ∧ h.cell ((b.add (i * 5)).add 4) = some (.int .i64 e.err)
theorem EvsAt.le {h h' : PH} {a : Option Addr} {l : List Ev} (x : EvsAt h a l) (le : h.le h') : EvsAt h' a l := by
  refine ⟨fun i e he => ?_⟩
  obtain ⟨b, hb, h0, h1, h2, h3, h4⟩ := x.at_ i e he
  exact ⟨b, hb, PH.cell_le le h0, PH.cell_le le h1, PH.cell_le le h2, PH.cell_le le h3, PH.cell_le le h4⟩
theorem EvsAt.take {h : PH} {a : Option Addr} {l : List Ev} (x : EvsAt h a l) (n : Nat) : EvsAt h a (l.take n) := by
  refine ⟨fun i e he => x.at_ i e ?_⟩
  rw [List.getElem?_take] at he
  split at he
  · exact he
  · cases he

theorem meets_short14 {h : PH} {a : Option Addr} {l c : Nat} (hc : l ≤ c) : Meets Try.prog 12 #[.slice a l c] h fun v h' => (∃ c', v = .slice a (min l 200) c') ∧ h' = h := by
  apply P_law14_short_of
  unfold P_law14_short xSlice
  have key : (if (200 : Int) < (l : Int) then (200 : Int) else (l : Int)) = ((min l 200 : Nat) : Int) := by
    split <;> omega
  rw [key]
  simp only [Option.getD_none, Option.getD_some, Int.toNat_zero, Nat.zero_mul, Nat.sub_zero, Int.toNat_natCast]
  refine ⟨⟨by omega, by omega, by omega⟩, ⟨c, ?_⟩, by trivial⟩
  congr 1
  split
  · rfl
  · cases a with
    | none => rfl
    | some b => simp [Addr.add]

theorem meets_theirs14 {h : PH} (e : Ev) : Meets Try.prog 15 #[evV e] h fun v h' => v = evV e ∧ h' = h := by
  apply Meets.same
  apply P_law14_theirs_of
  unfold P_law14_theirs
  intro b nb
  have l : h.le _ := PH.le_upd (O := .cells #[.int .i64 e.kind, .int .i64 e.thread, .int .i64 e.obj, .int .i64 e.arg, .int .i64 e.err] 29 (0, 0)) nb
  have eb := PH.upd_same h b (.cells #[.int .i64 e.kind, .int .i64 e.thread, .int .i64 e.obj, .int .i64 e.arg, .int .i64 e.err] 29 (0, 0))
  generalize h.upd b (.cells #[.int .i64 e.kind, .int .i64 e.thread, .int .i64 e.obj, .int .i64 e.arg, .int .i64 e.err] 29 (0, 0)) = h1 at l eb ⊢
  intro b2 nb2
  have q1 : b ≠ b2 := ne_of_known eb nb2
  simp only [xNn_some, add_mk, cell_mk, upd_at, del_at, if_true, if_false, Option.bind_some, List.getElem?_toArray, List.getElem?_cons_succ, List.getElem?_cons_zero, oI_some, oS_some, oM_some, oB_some, oP_some, oT_some, xIdx_some, Nat.zero_add, Nat.add_zero, Nat.mul_one, q1, eb]
  refine xSt_mk (PH.upd_same _ _ _) rfl (by decide) (by simp [oneCell]) (by simp) ?_
  rw [PH.upd_upd, setN5]
  simp only [xNn_some, add_mk, cell_mk, upd_at, del_at, if_true, if_false, Option.bind_some, List.getElem?_toArray, List.getElem?_cons_succ, List.getElem?_cons_zero, oI_some, oS_some, oM_some, oB_some, oP_some, oT_some, xIdx_some, Nat.zero_add, Nat.add_zero, Nat.mul_one]
  exact ⟨rfl, PH.le_trans l (PH.le_upd nb2)⟩

/-- A model of one's own: 'h0' is what was known at first. -/
def MOwn (h0 h : PH) (p : Value) (s : Ms) : Prop := ∃ L, p = mp L ∧ MRep h L s ∧ h0.le h ∧ ∀ b ∈ L.all, h0 b = none
theorem MOwn.of_fresh {h0 h h' : PH} {v : Value} {s : Ms} (l : h0.le h) (f : Fresh h h' v s) : MOwn h0 h' v s := by
  obtain ⟨L, e, r, l', n⟩ := f
  exact ⟨L, e, r, PH.le_trans l l', fun b hb => none_of l (n b hb)⟩
theorem MOwn.base {h0 h : PH} {p : Value} {s : Ms} (o : MOwn h0 h p s) : h0.le h := o.choose_spec.2.2.1
theorem MOwn.ptr {h0 h : PH} {p : Value} {s : Ms} (o : MOwn h0 h p s) : ∃ a, p = .pointer (some a) := by
  obtain ⟨L, rfl, _⟩ := o; exact ⟨_, rfl⟩
theorem MOwn.apply {h0 h : PH} {p : Value} {s : Ms} (o : MOwn h0 h p s) (e : Ev) (few : s.waits.length ≤ 64) :
    Meets Try.prog 14 #[p, evV e] h fun v h' => v = .int .i64 (s.code e) ∧ MOwn h0 h' p (s.next e) := by
  obtain ⟨L, rfl, r, l, n⟩ := o
  refine (meets_Apply r e few).mono ?_
  rintro v h' ⟨rfl, r', x⟩
  exact ⟨rfl, L, rfl, r', fun b O hO => x b O (l b O hO) (fun hm => by rw [n b hm] at hO; cases hO), n⟩
theorem MOwn.owner {h0 h : PH} {p : Value} {s : Ms} (o : MOwn h0 h p s) (x : Int) : Meets Try.prog 18 #[p, .int .i64 x] h fun v h' => v = .int .i64 (s.at x).owner ∧ h' = h := by
  obtain ⟨L, rfl, r, _⟩ := o; exact meets_Owner r x
theorem MOwn.count {h0 h : PH} {p : Value} {s : Ms} (o : MOwn h0 h p s) (x : Int) : Meets Try.prog 19 #[p, .int .i64 x] h fun v h' => v = .int .i64 (s.at x).count ∧ h' = h := by
  obtain ⟨L, rfl, r, _⟩ := o; exact meets_Count r x

theorem meets_alive14 {h : PH} : Meets Try.prog 20 #[] h fun v h' => v = .bool true ∧ h' = h := by
  apply Meets.same
  apply P_law14_alive_of
  unfold P_law14_alive
  refine (meets_New 2 1 3 (by decide)).mono ?_
  rintro _ h1 ⟨w, rfl, f⟩
  have o := MOwn.of_fresh (PH.le_refl h) f
  obtain ⟨a, rfl⟩ := o.ptr
  clear f
  have k1 : (Ms.new 2 1 3).code ⟨1, 0, 0, 0, 0⟩ = 0 := by kernel_rfl
  have k2 : (((Ms.new 2 1 3).next ⟨1, 0, 0, 0, 0⟩).at 0).owner = 0 := by kernel_rfl
  have k3 : (((Ms.new 2 1 3).next ⟨1, 0, 0, 0, 0⟩).at 0).count = 1 := by kernel_rfl
  have k4 : ((Ms.new 2 1 3).next ⟨1, 0, 0, 0, 0⟩).code ⟨1, 1, 0, 0, 0⟩ = 15 := by kernel_rfl
  have k5 : (((Ms.new 2 1 3).next ⟨1, 0, 0, 0, 0⟩).next ⟨1, 1, 0, 0, 0⟩).code ⟨3, 0, 0, 0, 0⟩ = 0 := by kernel_rfl
  have k6 : (((((Ms.new 2 1 3).next ⟨1, 0, 0, 0, 0⟩).next ⟨1, 1, 0, 0, 0⟩).next ⟨3, 0, 0, 0, 0⟩).at 0).owner = -1 := by kernel_rfl
  simp only [oTup_mk, oIx_some, xNn_some, add_mk, cell_mk, upd_at, del_at, if_true, if_false, Option.bind_some, List.getElem?_toArray, List.getElem?_cons_succ, List.getElem?_cons_zero, oI_some, oS_some, oM_some, oB_some, oP_some, oT_some, xIdx_some, Nat.zero_add, Nat.add_zero, Nat.mul_one]
  refine ⟨rfl, xSc_or false (fun _ J hJ => hJ) ⟨fun _ => ?_, fun hx => (by cases hx)⟩⟩
  refine (o.apply ⟨1, 0, 0, 0, 0⟩ (of_decide_eq_true (by kernel_rfl))).mono ?_
  rintro _ h2 ⟨rfl, o⟩
  simp only [oI_some, k1]
  refine xSc_or false (fun _ J hJ => ?_) ?_
  · refine (o.owner 0).look ?_
    simp only [oI_some, k2]
    exact hJ
  refine xSc_or false (fun _ J hJ => ?_) ⟨fun hx => (by cases hx), fun _ => ?_⟩
  · refine (o.count 0).look ?_
    simp only [oI_some, k3]
    exact hJ
  refine (o.apply ⟨1, 1, 0, 0, 0⟩ (of_decide_eq_true (by kernel_rfl))).mono ?_
  rintro _ h3 ⟨rfl, o⟩
  simp only [oI_some, k4]
  refine ⟨fun _ => ?_, fun hx => (by cases hx)⟩
  refine (o.apply ⟨3, 0, 0, 0, 0⟩ (of_decide_eq_true (by kernel_rfl))).mono ?_
  rintro _ h4 ⟨rfl, o⟩
  simp only [oI_some, k5]
  refine xSc_and true (fun _ J hJ => ?_) ⟨rfl, o.base⟩
  refine (o.owner 0).look ?_
  simp only [oI_some, k6]
  exact hJ

def evOf (ns : List Int) : Ev := ⟨ns.getD 0 0, ns.getD 1 0, ns.getD 2 0, ns.getD 3 0, ns.getD 4 0⟩
theorem evsAt_of {h : PH} {a : Option Addr} {rows : List (List Int)} (hl : ∀ ns ∈ rows, ns.length = 5) (hr : ∀ i ns, rows[i]? = some ns → ∃ b, a = some b ∧ ∀ j, j < 5 → h.cell ((b.add (i * 5)).add j) = ns[j]?.map (Value.int .i64)) : EvsAt h a (rows.map evOf) := by
  refine ⟨fun i e he => ?_⟩
  rw [List.getElem?_map] at he
  cases hi : rows[i]? with
  | none => rw [hi] at he; cases he
  | some ns =>
    rw [hi] at he
    simp only [Option.map_some, Option.some.injEq] at he
    obtain ⟨b, hb, hc⟩ := hr i ns hi
    have l5 := hl ns (List.mem_of_getElem? hi)
    have g : ∀ j, j < 5 → ns[j]?.map (Value.int .i64) = some (.int .i64 (ns.getD j 0)) := fun j hj => by
      rw [List.getElem?_eq_getElem (by omega)]; simp [List.getD_eq_getElem?_getD, List.getElem?_eq_getElem (show j < ns.length by omega)]
    subst he
    exact ⟨b, hb, (hc 0 (by omega)).trans (g 0 (by omega)), (hc 1 (by omega)).trans (g 1 (by omega)), (hc 2 (by omega)).trans (g 2 (by omega)), (hc 3 (by omega)).trans (g 3 (by omega)), (hc 4 (by omega)).trans (g 4 (by omega))⟩

end Go.Md
