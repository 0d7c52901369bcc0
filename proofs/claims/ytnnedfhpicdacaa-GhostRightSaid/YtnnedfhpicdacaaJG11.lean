/-
  The document's log: how many entries are right together.
-/
import Derived.Test.YtnnedfhpicdacaaJG7
import Derived.Test.YtnnedfhpicdacaaJG10

set_option linter.unusedSimpArgs false
set_option linter.unusedVariables false
namespace Go.Gh
open Go Go.Sx Go.Md Go.Rf Go.Proofs Go.Proofs.Ytnnedfhpicdacaa

def rt : Gs → List En → Nat × Bool
  | _, [] => (0, true)
  | g, e :: l => if g.code e = 0 then ((rt (g.next e) l).1 + 1, (rt (g.next e) l).2) else (0, false)
theorem rt_cons (g : Gs) (e : En) (l : List En) : rt g (e :: l) = if g.code e = 0 then ((rt (g.next e) l).1 + 1, (rt (g.next e) l).2) else (0, false) := rfl
theorem code_none {g : Gs} {e : En} (h : g.turn e = none) : g.code e ≠ 0 := by
  have ha : g.add e = none := by simp only [Gs.add, h]; rfl
  simp [Gs.code, ha]
theorem code_some {g g' : Gs} {e : En} (h : g.turn e = some g') : g.code e = 0 ∧ g.next e = { g' with entries := g'.entries ++ [e] } := by
  have ha : g.add e = some { g' with entries := g'.entries ++ [e] } := by simp only [Gs.add, h]; rfl
  exact ⟨by simp [Gs.code, ha], by simp [Gs.next, ha]⟩

abbrev AtR := Th × Option Addr × Nat × Nat
def atE (x : AtR) : List Value := aqL x.1 x.2.1 x.2.2.1 x.2.2.2
theorem atE_len (x : AtR) : (atE x).length = 6 := rfl
theorem one_at (ats : List AtR) : ∀ v ∈ (recArr atE ats []).toList, oneCell v = true := by
  intro v hv
  unfold recArr at hv
  simp only [List.append_nil, List.mem_flatten, List.mem_map] at hv
  obtain ⟨q, ⟨x, _, rfl⟩, hv⟩ := hv
  simp only [atE, aqL, List.mem_cons, List.not_mem_nil, or_false] at hv
  rcases hv with rfl | rfl | rfl | rfl | rfl | rfl <;> rfl
theorem zero_at : zeroC Try.prog 95 = recArr atE (List.replicate 8 (th0, none, 0, 0)) [] := by kernel_rfl
theorem at_size {ats : List AtR} (h : ats.length = 8) : (recArr atE ats []).size = 48 := by rw [rec_size (enc := atE) atE_len, h]; rfl

/-- The places of threads, and what is known of their commits. -/
def Rows (B : PH) (g : Gs) (ats : List AtR) (k : Nat) : Prop :=
  ∀ (i : Nat), i < g.threads.length → ∃ p c L, ats[i]? = some (g.threads.getD i th0, p, L.length, c) ∧ TI (g.threads.getD i th0) L ∧ L.length ≤ k ∧ RecsAt evL 5 B p L
structure Rx (h0 : PH) (b9 b10 b11 b13 : Nat) (R : Rm) (ats : List AtR) (h : PH) : Prop where
  e9 : ∃ z : Array Value, z.size = 227 ∧ h b9 = some (.cells z 77 (0, 0))
  e10 : ∃ z : Array Value, z.size = 48 ∧ h b10 = some (.cells z 95 (0, 0))
  m : h b11 = some (.cells (rmA R) 77 (0, 0))
  a : h b13 = some (.cells (recArr atE ats []) 95 (0, 0))
  w : R.Wf
  al : ats.length = 8
  n9 : h0 b9 = none
  n10 : h0 b10 = none
  n11 : h0 b11 = none
  n13 : h0 b13 = none
  d1 : b9 ≠ b10
  d2 : b9 ≠ b11
  d3 : b9 ≠ b13
  d4 : b10 ≠ b11
  d5 : b10 ≠ b13
  d6 : b11 ≠ b13
  l : h0.le h
def R15 (k : Int) (v : Value) : Prop := ∃ m a : Array Value, m.size = 227 ∧ a.size = 48 ∧ (∀ v ∈ m.toList, oneCell v = true) ∧ (∀ v ∈ a.toList, oneCell v = true) ∧ v = .tuple #[.int .i64 k, .agg m, .agg a]
section
variable {h0 h : PH} {b9 b10 b11 b13 : Nat} {R : Rm} {ats : List AtR} (x : Rx h0 b9 b10 b11 b13 R ats h)
include x
theorem Rx.le {h' : PH} (l : h.le h') : Rx h0 b9 b10 b11 b13 R ats h' := by
  obtain ⟨z, hz, e9⟩ := x.e9
  obtain ⟨z', hz', e10⟩ := x.e10
  exact ⟨⟨z, hz, l _ _ e9⟩, ⟨z', hz', l _ _ e10⟩, l _ _ x.m, l _ _ x.a, x.w, x.al, x.n9, x.n10, x.n11, x.n13, x.d1, x.d2, x.d3, x.d4, x.d5, x.d6, PH.le_trans x.l l⟩
theorem Rx.setM {R' : Rm} (w : R'.Wf) : Rx h0 b9 b10 b11 b13 R' ats (h.upd b11 (.cells (rmA R') 77 (0, 0))) := by
  obtain ⟨z, hz, e9⟩ := x.e9
  obtain ⟨z', hz', e10⟩ := x.e10
  exact ⟨⟨z, hz, by rw [PH.upd_ne _ _ x.d2]; exact e9⟩, ⟨z', hz', by rw [PH.upd_ne _ _ x.d4]; exact e10⟩, PH.upd_same _ _ _, by rw [PH.upd_ne _ _ (Ne.symm x.d6)]; exact x.a, w, x.al, x.n9, x.n10, x.n11, x.n13, x.d1, x.d2, x.d3, x.d4, x.d5, x.d6, upd_le_upd x.n11 x.l⟩
theorem Rx.setA {ats' : List AtR} (al : ats'.length = 8) : Rx h0 b9 b10 b11 b13 R ats' (h.upd b13 (.cells (recArr atE ats' []) 95 (0, 0))) := by
  obtain ⟨z, hz, e9⟩ := x.e9
  obtain ⟨z', hz', e10⟩ := x.e10
  exact ⟨⟨z, hz, by rw [PH.upd_ne _ _ x.d3]; exact e9⟩, ⟨z', hz', by rw [PH.upd_ne _ _ x.d5]; exact e10⟩, by rw [PH.upd_ne _ _ x.d6]; exact x.m, PH.upd_same _ _ _, x.w, al, x.n9, x.n10, x.n11, x.n13, x.d1, x.d2, x.d3, x.d4, x.d5, x.d6, upd_le_upd x.n13 x.l⟩
theorem Rx.off {b : Nat} (O : Obj) (n : h0 b = none) (q9 : b ≠ b9) (q10 : b ≠ b10) (q11 : b ≠ b11) (q13 : b ≠ b13) : Rx h0 b9 b10 b11 b13 R ats (h.upd b O) := by
  obtain ⟨z, hz, e9⟩ := x.e9
  obtain ⟨z', hz', e10⟩ := x.e10
  exact ⟨⟨z, hz, by rw [PH.upd_ne _ _ (Ne.symm q9)]; exact e9⟩, ⟨z', hz', by rw [PH.upd_ne _ _ (Ne.symm q10)]; exact e10⟩, by rw [PH.upd_ne _ _ (Ne.symm q11)]; exact x.m, by rw [PH.upd_ne _ _ (Ne.symm q13)]; exact x.a, x.w, x.al, x.n9, x.n10, x.n11, x.n13, x.d1, x.d2, x.d3, x.d4, x.d5, x.d6, upd_le_upd n x.l⟩
theorem Rx.ne {b : Nat} (n : h b = none) : b ≠ b9 ∧ b ≠ b10 ∧ b ≠ b11 ∧ b ≠ b13 := by
  obtain ⟨z, hz, e9⟩ := x.e9
  obtain ⟨z', hz', e10⟩ := x.e10
  refine ⟨fun e => ?_, fun e => ?_, fun e => ?_, fun e => ?_⟩
  · subst e; rw [n] at e9; cases e9
  · subst e; rw [n] at e10; cases e10
  · subst e; have := x.m; rw [n] at this; cases this
  · subst e; have := x.a; rw [n] at this; cases this
theorem Rx.ret {k r : Int} (hk : r = k) : xDraw h fun hs => oBig hs ⟨b11, 0, none⟩ 227 fun m => oBig hs ⟨b13, 0, none⟩ 48 fun a => xSt 227 h ⟨b9, 0, none⟩ m.toList fun h7 => hs.le h7 ∧ xSt 48 h7 ⟨b10, 0, none⟩ a.toList fun h8 => oBig h8 ⟨b9, 0, none⟩ 227 fun y9 => oBig h8 ⟨b10, 0, none⟩ 48 fun y10 => (R15 k (.tuple #[.int .i64 r, .agg y9, .agg y10]) ∧ h0.le h8) := by
  obtain ⟨z, hz, e9⟩ := x.e9
  obtain ⟨z', hz', e10⟩ := x.e10
  refine xDraw_del b9 ?_
  rw [oBig_eq (show (h.del b9) b11 = _ by rw [del_at, if_neg (Ne.symm x.d2)]; exact x.m) (rmA_size x.w)]
  rw [oBig_eq (show (h.del b9) b13 = _ by rw [del_at, if_neg (Ne.symm x.d3)]; exact x.a) (at_size x.al)]
  refine xSt_all e9 hz (rmA_size x.w) (by decide) (one_rm R) ⟨PH.del_le_upd (PH.del_le _ _), ?_⟩
  refine xSt_all (show (h.upd b9 _) b10 = _ by rw [PH.upd_ne _ _ (Ne.symm x.d1)]; exact e10) hz' (at_size x.al) (by decide) (one_at ats) ?_
  rw [oBig_eq (show ((h.upd b9 _).upd b10 _) b9 = _ by rw [PH.upd_ne _ _ x.d1, PH.upd_same]) (rmA_size x.w)]
  rw [oBig_eq (PH.upd_same _ _ _) (at_size x.al)]
  exact ⟨⟨_, _, rmA_size x.w, at_size x.al, one_rm R, one_at ats, by rw [hk]⟩, upd_le_upd x.n10 (upd_le_upd x.n9 x.l)⟩
end

theorem en_cell {h : PH} {b : Nat} {e : En} {el : TypeId} (eb : h b = some (.cells (enL e).toArray el (0, 0))) {k : Nat} : h.cell ((⟨b, 0, none⟩ : Addr).add k) = (enL e)[k]? := by
  rw [cellAdd eb, Nat.zero_add]; exact List.getElem?_toArray
theorem en_cell2 {h : PH} {b : Nat} {e : En} {el : TypeId} (eb : h b = some (.cells (enL e).toArray el (0, 0))) {i k : Nat} : h.cell (((⟨b, 0, none⟩ : Addr).add i).add k) = (enL e)[i + k]? := by
  rw [add_mk, add_mk, Nat.zero_add, cellAt eb]; exact List.getElem?_toArray
theorem aq_cell {h : PH} {b : Nat} {t : Th} {p : Option Addr} {n c : Nat} {el : TypeId} (eb : h b = some (.cells (aqL t p n c).toArray el (0, 0))) {k : Nat} : h.cell ((⟨b, 0, none⟩ : Addr).add k) = (aqL t p n c)[k]? := by
  rw [cellAdd eb, Nat.zero_add]; exact List.getElem?_toArray

/-- Records, copied. -/
theorem xCopyR {α : Type} {enc : α → List Value} {w : Nat} {el : TypeId} {bytes : Nat} (hw : ∀ a, (enc a).length = w) (hw0 : w ≠ 0) (ho : ∀ a, ∀ v ∈ enc a, oneCell v = true) {h : PH} {p : Option Addr} {n c : Nat} {l : List α} (x : RecsAt enc w h p l) (hn : l.length = n) (hb : (2 * (0 + n) + 192) * bytes ≤ 2 ^ 48)
    {K : Option Addr → Nat → Nat → PH → Prop} (k : ∀ p' n' c' h' S, RowIn enc w el h' p' n' c' l S → h.le h' → (∀ b ∈ S, h b = none) → K p' n' c' h') : xApp h el w bytes none 0 0 (.slice p n c) K := by
  have lf := rec_len (enc := enc) hw l
  have src : srcCells h w (.slice p n c) ((l.map enc).flatten) n := by
    cases p with
    | none =>
      cases l with
      | nil => exact ⟨hn.symm, hn.symm, rfl⟩
      | cons a l =>
        obtain ⟨b, hb, _⟩ := x.at_ 0 a rfl
        cases hb
    | some b =>
      refine ⟨rfl, by rw [lf, hn], fun i hi => ?_⟩
      have hq : i / w < l.length := by rw [hn]; exact Nat.div_lt_of_lt_mul (by rw [Nat.mul_comm]; exact hi)
      obtain ⟨b', hb', hc⟩ := x.at_ (i / w) _ (List.getElem?_eq_getElem hq)
      simp only [Option.some.injEq] at hb'
      subst hb'
      have hm : i % w < w := Nat.mod_lt _ (by omega)
      have hv := rec_get (enc := enc) hw (junk := []) l[i / w] (List.getElem?_eq_getElem hq) (i % w) hm
      unfold recArr at hv
      rw [List.append_nil, List.getElem?_toArray, Nat.mul_comm, Nat.div_add_mod] at hv
      rw [hv]
      have hlt : i % w < (enc l[i / w]).length := by rw [hw]; exact hm
      have hcell := hc (i % w) _ (List.getElem?_eq_getElem hlt)
      rw [List.getElem?_eq_getElem hlt, ← hcell]
      have hi : i / w * w + i % w = i := by rw [Nat.mul_comm]; exact Nat.div_add_mod _ _
      cases b with
      | mk bb oo ss =>
        unfold Addr.add
        by_cases z1 : i / w * w = 0
        · by_cases z2 : i % w = 0
          · rw [if_pos (show i = 0 by omega), if_pos z1, if_pos z2]
          · rw [if_neg (show ¬i = 0 by omega), if_pos z1, if_neg z2]
            simp only []
            congr 2; omega
        · by_cases z2 : i % w = 0
          · rw [if_neg (show ¬i = 0 by omega), if_neg z1, if_pos z2]
            simp only []
            congr 2; omega
          · rw [if_neg (show ¬i = 0 by omega), if_neg z1, if_neg z2]
            simp only []
            congr 2; omega
  refine ⟨_, n, src, ?_, hb, rfl, rfl, fun h0 => ?_, fun h0 b cap' junk nb hc hj => ?_⟩
  · intro v hv
    obtain ⟨q, hq, hv⟩ := List.mem_flatten.1 hv
    obtain ⟨a, _, rfl⟩ := List.mem_map.1 hq
    exact ho a v hv
  · have : l = [] := List.eq_nil_of_length_eq_zero (by omega)
    subst this
    exact k _ _ _ _ [] (RowIn.nil _ _) (PH.le_refl _) (by simp)
  · refine k _ _ _ _ [b] ⟨hn.symm, .inr ⟨b, junk, rfl, PH.upd_same _ _ _, by omega, by rw [hn]; exact hj, rfl⟩⟩ (PH.le_upd nb) (fun y hy => ?_)
    simp only [List.mem_singleton] at hy
    subst hy; exact nb

end Go.Gh

/-
  The document's log: the walk of Right.
-/
set_option linter.unusedSimpArgs false
set_option linter.unusedVariables false
namespace Go.Gh
open Go Go.Sx Go.Md Go.Rf Go.Proofs Go.Proofs.Ytnnedfhpicdacaa
open Go.Ck (used14 wf_apply sim_rng)

theorem commitOf_rng {k : Int} (h : commitOf k ≠ 0) : 1 ≤ k ∧ k ≤ 9 := by
  unfold commitOf at h
  by_cases k1 : k = 1
  · omega
  rw [if_neg k1] at h
  by_cases k2 : k = 2
  · omega
  rw [if_neg k2] at h
  by_cases k3 : k = 3
  · omega
  rw [if_neg k3] at h
  by_cases k4 : k = 4
  · omega
  rw [if_neg k4] at h
  by_cases k5 : k = 5
  · omega
  rw [if_neg k5] at h
  by_cases k6 : k = 6
  · omega
  rw [if_neg k6] at h
  by_cases k7 : k = 7
  · omega
  rw [if_neg k7] at h
  by_cases k8 : k = 8
  · omega
  rw [if_neg k8] at h
  by_cases k9 : k = 9
  · omega
  rw [if_neg k9] at h
  exact absurd rfl h
theorem mayOp_rng {o t : Int} {q : Oq} (h : mayOp o t q = true) : 1 ≤ q.kind ∧ q.kind ≤ 9 := by
  unfold mayOp at h
  split at h
  · cases h
  · rename_i hc
    refine commitOf_rng fun e => hc ?_
    simp [e]
theorem bare_kind {e : En} (h : e.bare = true) : e.kind = 1 ∨ e.kind = 2 ∨ e.kind = 3 := by
  unfold En.bare at h
  by_cases h1 : e.kind = 1
  · exact .inl h1
  rw [if_neg h1] at h
  by_cases h2 : e.kind = 2
  · exact .inr (.inl h2)
  rw [if_neg h2] at h
  by_cases h3 : e.kind = 3
  · exact .inr (.inr h3)
  rw [if_neg h3] at h
  cases h
theorem ti_open (o : Oq) (c : Int) (h : 1 ≤ o.kind ∧ o.kind ≤ 9) : TI ⟨o, c, true, 0, ev0⟩ [] := ⟨rfl, fun e he => (by cases he), fun _ => h, fun _ e he => (by cases he), by simp⟩
theorem ti_shut (o : Oq) (c : Int) : TI ⟨o, c, false, 0, ev0⟩ [] := ⟨rfl, fun e he => (by cases he), fun h => (by cases h), fun h => (by cases h), by simp⟩
theorem ti_commit {t : Th} {L : List Ev} (I : TI t L) {e : Ev} (h : t.takes e = true) (hl : L.length + 1 ≤ 1000) : TI { t with many := IntKind.wrap .i64 (t.many + 1), last := e } (L ++ [e]) := by
  have hopn : t.opn = true := by
    unfold Th.takes at h
    split at h
    · cases h
    · rename_i hc; simp at hc; exact hc.1
  refine ⟨?_, ?_, fun _ => I.kind hopn, fun _ e' he' h4 h5 h6 => ?_, by simpa using hl⟩
  · show IntKind.wrap .i64 (t.many + 1) = _
    rw [I.many, wrap64_id (by omega) (by omega)]; simp
  · intro e' he'
    simp only [List.getLast?_append, List.getLast?_singleton, Option.some_or, Option.some.injEq] at he'
    exact he'
  · simp only [List.getLast?_append, List.getLast?_singleton, Option.some_or, Option.some.injEq] at he'
    subst he'
    unfold Th.takes at h
    split at h
    · cases h
    · rw [if_neg (show ¬(t.op.kind = 5 ∨ t.op.kind = 6) by intro x; rcases x with x | x; exact h5 x; exact h6 x)] at h
      simp only [Bool.and_eq_true, beq_iff_eq] at h
      exact h.2
theorem ev_len (e : Ev) : (evL e).length = 5 := rfl
theorem ev_one (e : Ev) : ∀ v ∈ evL e, oneCell v = true := by simp [evL, oneCell]
theorem en_one (e : En) : ∀ v ∈ enL e, oneCell v = true := by simp [enL, oneCell]
theorem aq_one (t : Th) (p : Option Addr) (n c : Nat) : ∀ v ∈ aqL t p n c, oneCell v = true := by simp [aqL, oneCell]
theorem setN_aq (t t' : Th) (p p' : Option Addr) (n n' c c' : Nat) (b : Option Addr) : setN (aqL t p n c).toArray 0 (aqL t' p' n' c') = (aqL t' p' n' c').toArray := setN_all _ _ rfl

/-- Where a thread's place is read. -/
theorem at_cell {h : PH} {b : Nat} {ats : List AtR} {el : TypeId} (eb : h b = some (.cells (recArr atE ats []) el (0, 0))) {i : Nat} {x : AtR} (hx : ats[i]? = some x) {k : Nat} (hk : k < 6) : h.cell (((⟨b, 0, none⟩ : Addr).add (i * 6)).add k) = (atE x)[k]? := by
  rw [add_mk, add_mk, Nat.zero_add, cellAt eb]
  exact rec_get atE_len x hx k hk

set_option maxHeartbeats 8000000 in
theorem meets_rRight {h : PH} {a : Option Addr} {n c : Nat} {l : List En} (x : EnsAt h a l) (hl : l.length = n) (hn : n ≤ 500) (t o m : Int) :
    Meets Try.prog 37 #[.int .i64 t, .int .i64 o, .int .i64 m, .slice a n c] h fun v h' => R15 (if newOk t o m = true then ((rt (Gs.new t o m) l).1 : Int) else 0) v ∧ h' = h := by
  apply Meets.same
  apply P_ref15_Right_of
  unfold P_ref15_Right
  refine xNew_intro fun b9 h1 l1 n9 e9 => ?_
  refine xNew_intro fun b10 h2 l2 n10 e10 => ?_
  refine (meets_new' t o m).look ?_
  have start : ∀ (R0 : Rm) (f : Int), R0.Wf → ∀ K : Nat → Nat → PH → Prop, (∀ b11 b13 h', Rx h b9 b10 b11 b13 R0 (List.replicate 8 (th0, none, 0, 0)) h' → K b11 b13 h') → xNew h2 (.cells (zeroC Try.prog 77) 77 (0, 0)) fun b11 h4 => xSt 227 h4 ⟨b11, 0, none⟩ (rmA R0).toList fun h5 => xNew h5 (.cells (zeroC Try.prog 95) 95 (0, 0)) fun b13 h6 => K b11 b13 h6 := by
    intro R0 f w K hK b11 n11
    refine xSt_all (PH.upd_same _ _ _) zero_size (rmA_size w) (by decide) (one_rm R0) ?_
    have l5 := upd_le_upd (O := .cells (rmA R0) 77 (0, 0)) n11 (PH.le_upd (O := .cells (zeroC Try.prog 77) 77 (0, 0)) n11)
    have e11 := PH.upd_same (h2.upd b11 (.cells (zeroC Try.prog 77) 77 (0, 0))) b11 (.cells (rmA R0) 77 (0, 0))
    generalize (h2.upd b11 (.cells (zeroC Try.prog 77) 77 (0, 0))).upd b11 (.cells (rmA R0) 77 (0, 0)) = h5 at l5 e11
    refine xNew_intro fun b13 h6 l6 n13 e13 => ?_
    have f9 := l2 _ _ e9
    have g9 := l5 _ _ f9
    have g10 := l5 _ _ e10
    have zs : (zeroC Try.prog 95).size = 48 := by rw [zero_at]; exact at_size (by simp)
    refine hK b11 b13 h6 ⟨⟨_, zero_size, l6 _ _ g9⟩, ⟨_, zs, l6 _ _ g10⟩, l6 _ _ e11, by rw [e13, zero_at], w, by simp, n9, none_of l1 n10, none_of l1 (none_of l2 n11), none_of l1 (none_of l2 (none_of l5 n13)), ne_of_known e9 n10, ne_of_known f9 n11, ne_of_known g9 n13, ne_of_known e10 n11, ne_of_known g10 n13, ne_of_known e11 n13, PH.le_trans l1 (PH.le_trans l2 (PH.le_trans l5 l6))⟩
  cases ok : newOk t o m with
  | false =>
    rw [if_neg (by simp), if_neg (by simp)]
    refine used14 (r := (Rm.new 0 0 0, 1)) (wf_new _ _ _) ?_
    simp only [oAgg_mk, oI_some]
    refine ⟨rmA_size (wf_new _ _ _), ?_⟩
    refine start (Rm.new 0 0 0) 1 (wf_new _ _ _) _ fun b11 b13 h6 X => ?_
    exact ⟨fun _ => X.ret rfl, fun hx => (by cases hx)⟩
  | true =>
    rw [if_pos rfl, if_pos rfl]
    have S0 := sim_new ok
    refine used14 (r := (Rm.new t o m, 0)) S0.wf ?_
    simp only [oAgg_mk, oI_some]
    refine ⟨rmA_size S0.wf, ?_⟩
    refine start (Rm.new t o m) 0 S0.wf _ fun b11 b13 h6 X0 => ?_
    clear start e9 e10 n10 l2 l1
    refine ⟨fun hx => (by cases hx), fun _ => ?_⟩
    have hr : (1 ≤ t ∧ t ≤ 8) ∧ (1 ≤ o ∧ o ≤ 8) ∧ (1 ≤ m ∧ m ≤ 60) := by simpa [newOk, inRange] using ok
    have T0 : ((Gs.new t o m).threads.length : Int) = t := by simp [Gs.new]; omega
    have O0 : (Gs.new t o m).objects = o := rfl
    have M0 : (Gs.new t o m).model = Ms.new t o m := rfl
    have rows0 : Rows (h6.cut [b9, b10, b11, b13]) (Gs.new t o m) (List.replicate 8 (th0, none, 0, 0)) 0 := by
      intro i hi
      have hi8 : i < 8 := by omega
      refine ⟨none, 0, [], ?_, ?_, by simp, ⟨fun j y hj => (by cases hj)⟩⟩
      · rw [List.getElem?_replicate, if_pos hi8]
        simp only [Gs.new, getD_rep]; rfl
      · simp only [Gs.new, getD_rep]; exact ti_shut _ _
    rw [← M0] at S0
    generalize Gs.new t o m = g0 at T0 O0 S0 rows0
    clear M0
    generalize Rm.new t o m = R0 at S0 X0
    refine xBlk_split (fun h' => ∃ R ats, Rx h b9 b10 b11 b13 R ats h' ∧ (rt g0 l).1 = n) ?_ fun K hK => ?_
    · rintro h' ⟨R, ats, X, e⟩
      exact X.ret (by rw [e])
    refine xLoop1 (fun (i : Int) h' => 0 ≤ i ∧ i ≤ n ∧ ∃ (g : Gs) (R : Rm) (ats : List AtR), Sim R g.model ∧ (g.threads.length : Int) = t ∧ g.objects = o ∧ Rx h b9 b10 b11 b13 R ats h' ∧ Rows (h'.cut [b9, b10, b11, b13]) g ats i.toNat ∧ (rt g0 l).1 = i.toNat + (rt g (l.drop i.toNat)).1) (fun (i : Int) _ => ((n : Int) - i).toNat) ?_
      ⟨by omega, by omega, g0, R0, _, S0, T0, O0, X0, rows0, by simp⟩
    clear S0 T0 O0 X0 rows0
    rintro J i h7 ⟨i0, i1, g, R, ats, S, hT, hO, X, rows, hs⟩ hJ
    refine ⟨fun hx => ?_, fun hx => ?_⟩
    rotate_left
    · have hx := of_decide_eq_false hx
      have : l.drop i.toNat = [] := List.drop_eq_nil_of_le (by omega)
      rw [this] at hs
      refine hK _ ⟨R, ats, X, ?_⟩
      rw [hs]; simp only [rt]; omega
    have hx := of_decide_eq_true hx
    have hw : IntKind.wrap .i64 (i + 1) = i + 1 := wrap64_id (by omega) (by omega)
    have hi : i.toNat < l.length := by omega
    have hd : l.drop i.toNat = l[i.toNat] :: l.drop (i.toNat + 1) := List.drop_eq_getElem_cons hi
    rw [hd] at hs
    obtain ⟨ba, rfl, hcell⟩ := (x.le X.l).at_ i.toNat _ (List.getElem?_eq_getElem hi)
    generalize l[i.toNat] = e at hcell hs
    have step : ∀ h' (g' : Gs) (R' : Rm) (ats' : List AtR), Sim R' g'.model → (g'.threads.length : Int) = t → g'.objects = o → Rx h b9 b10 b11 b13 R' ats' h' → Rows (h'.cut [b9, b10, b11, b13]) g' ats' (i.toNat + 1) → (rt g0 l).1 = i.toNat + 1 + (rt g' (l.drop (i.toNat + 1))).1 → J (i + 1) h' := fun h' g' R' ats' k1 k2 k3 k4 k5 k6 => hJ _ _ ⟨by omega, by omega, g', R', ats', k1, k2, k3, k4, by rw [show (i + 1).toNat = i.toNat + 1 from by omega]; exact k5, by rw [show (i + 1).toNat = i.toNat + 1 from by omega]; exact k6⟩ (by omega)
    clear hJ hK
    refine xBlk_split (fun h' => ∃ (g' : Gs) (R' : Rm) (ats' : List AtR), Sim R' g'.model ∧ (g'.threads.length : Int) = t ∧ g'.objects = o ∧ Rx h b9 b10 b11 b13 R' ats' h' ∧ Rows (h'.cut [b9, b10, b11, b13]) g' ats' (i.toNat + 1) ∧ (rt g0 l).1 = i.toNat + 1 + (rt g' (l.drop (i.toNat + 1))).1) (fun h' ⟨g', R', ats', k1, k2, k3, k4, k5, k6⟩ => by rw [hw]; exact step h' g' R' ats' k1 k2 k3 k4 k5 k6) fun K hK => ?_
    clear step
    rw [rt_cons] at hs
    have no : g.turn e = none → ((rt g0 l).1 : Int) = i := by
      intro ht
      rw [if_neg (code_none ht)] at hs
      rw [hs]; omega
    have yes : ∀ (g' : Gs), g.turn e = some g' → (rt g0 l).1 = i.toNat + 1 + (rt { g' with entries := g'.entries ++ [e] } (l.drop (i.toNat + 1))).1 := by
      intro g' ht
      obtain ⟨k1, k2⟩ := code_some ht
      rw [if_pos k1, k2] at hs
      rw [hs]; simp only []; omega
    clear hs
    refine ⟨ba, rfl, i0, hx, ?_⟩
    have c0 := hcell 0 _ rfl
    have c1 := hcell 1 _ rfl
    have c2 := hcell 2 _ rfl
    have c3 := hcell 3 _ rfl
    have c4 := hcell 4 _ rfl
    have c5 := hcell 5 _ rfl
    have c6 := hcell 6 _ rfl
    have c7 := hcell 7 _ rfl
    have c8 := hcell 8 _ rfl
    have c9 := hcell 9 _ rfl
    have c10 := hcell 10 _ rfl
    have c11 := hcell 11 _ rfl
    have c12 := hcell 12 _ rfl
    simp only [c0, c1, c2, c3, c4, c5, c6, c7, c8, c9, c10, c11, c12, oI_some]
    clear c0 c1 c2 c3 c4 c5 c6 c7 c8 c9 c10 c11 c12 hcell
    refine xBox rfl rfl rfl (by decide) (en_one e) fun b15 h8 l8 n15 e15 => ?_
    have e15 : h8 b15 = some (.cells (enL e).toArray 88 (0, 0)) := e15
    obtain ⟨u1, u2, u3, u4⟩ := X.ne n15
    have X8 := X.le l8
    have n15h : h b15 = none := none_of X.l n15
    simp only [en_cell e15, enL, List.getElem?_cons_zero, List.getElem?_cons_succ, oI_some]
    refine (meets_bare e).look ?_
    simp only [oB_some]
    refine xSc_or (decide (e.thread < 0)) (fun _ J hJ => by simp only [en_cell e15, enL, List.getElem?_cons_zero, List.getElem?_cons_succ, oI_some]; exact hJ) ?_
    refine xSc_or (decide (e.thread ≥ t)) (fun _ J hJ => by simp only [en_cell e15, enL, List.getElem?_cons_zero, List.getElem?_cons_succ, oI_some]; exact hJ) ?_
    have hfit : g.fits e = !(!e.bare || decide (e.thread < 0) || decide (e.thread ≥ t)) := by
      unfold Gs.fits
      rw [hT]
      cases e.bare <;> cases decide (e.thread < 0) <;> cases decide (e.thread ≥ t) <;> rfl
    refine ⟨fun hc => ?_, fun hc => ?_⟩
    · refine X8.ret (no ?_).symm
      unfold Gs.turn
      rw [hfit, hc]; rfl
    rw [hc] at hfit
    have hfit : g.fits e = true := hfit
    simp only [Bool.or_eq_false_iff, Bool.not_eq_false', decide_eq_false_iff_not] at hc
    obtain ⟨⟨hbare, th0'⟩, tht⟩ := hc
    have ht8 : 0 ≤ e.thread ∧ e.thread < ((8 : Nat) : Int) := by omega
    have htl : e.thread.toNat < g.threads.length := by omega
    obtain ⟨p, cc, L, hat, I, hLk, rec⟩ := rows e.thread.toNat htl
    have hth : g.threads.getD e.thread.toNat th0 = g.th e.thread := rfl
    rw [hth] at hat I
    have hkd := bare_kind hbare
    simp only [en_cell e15, enL, List.getElem?_cons_zero, List.getElem?_cons_succ, oI_some, xIdxA_eq ht8]
    have ac := fun (k : Nat) (hk : k < 6) => at_cell X8.a hat hk
    have a0 := ac 0 (by omega)
    have a1 := ac 1 (by omega)
    have a2 := ac 2 (by omega)
    have a3 := ac 3 (by omega)
    have a4 := ac 4 (by omega)
    have a5 := ac 5 (by omega)
    simp only [atE, aqL, List.getElem?_cons_zero, List.getElem?_cons_succ] at a0 a1 a2 a3 a4 a5
    simp only [a0, a1, a2, a3, a4, a5, oI_some, oB_some, oS_some]
    clear a0 a1 a2 a3 a4 a5 ac
    refine xBox rfl rfl rfl (by decide) (aq_one (g.th e.thread) p L.length cc) fun b16 h9 l9 n16 e16 => ?_
    have e16 : h9 b16 = some (.cells (aqL (g.th e.thread) p L.length cc).toArray 94 (0, 0)) := e16
    obtain ⟨v1, v2, v3, v4⟩ := X8.ne n16
    have X9 := X8.le l9
    have n16h : h b16 = none := none_of X8.l n16
    have f15 := l9 _ _ e15
    have d156 : b15 ≠ b16 := ne_of_known e15 n16
    have l79 := PH.le_trans l8 l9
    -- what was known of rows, away from the function's own
    have B9 : (h7.cut [b9, b10, b11, b13]).le h9 := PH.le_trans (PH.cut_le _ _) l79
    have Bn : ∀ b ∈ [b9, b10, b11, b13], (h7.cut [b9, b10, b11, b13]) b = none := fun b hb => by unfold PH.cut; rw [if_pos hb]
    have Bcut : ∀ {h' : PH}, (h7.cut [b9, b10, b11, b13]).le h' → (h7.cut [b9, b10, b11, b13]).le (h'.cut [b9, b10, b11, b13]) := by
      intro h' le y O hy
      have hm : y ∉ [b9, b10, b11, b13] := fun hm => by rw [Bn y hm] at hy; cases hy
      rw [PH.cut_at hm]; exact le y O hy
    have B15 : (h7.cut [b9, b10, b11, b13]) b15 = none := by
      unfold PH.cut; split
      · rfl
      · exact n15
    have B16 : (h7.cut [b9, b10, b11, b13]) b16 = none := by
      unfold PH.cut; split
      · rfl
      · exact none_of l8 n16
    clear X X8
    simp only [en_cell f15, enL, List.getElem?_cons_zero, List.getElem?_cons_succ, oI_some]
    refine xBlk_split (fun h' => ∃ (g' : Gs) (R' : Rm) (t' : Th) (p' : Option Addr) (c' : Nat) (L' : List Ev), g.turn e = some g' ∧ g'.threads = g.threads.set e.thread.toNat t' ∧ g'.objects = o ∧ Sim R' g'.model ∧ Rx h b9 b10 b11 b13 R' ats h' ∧
        h' b16 = some (.cells (aqL t' p' L'.length c').toArray 94 (0, 0)) ∧ h' b15 = some (.cells (enL e).toArray 88 (0, 0)) ∧ TI t' L' ∧ L'.length ≤ i.toNat + 1 ∧ RecsAt evL 5 (h'.cut [b9, b10, b11, b13]) p' L' ∧ (h7.cut [b9, b10, b11, b13]).le h') ?_ fun K2 hK2 => ?_
    · rintro h' ⟨g', R', t', p', c', L', ht, hth', hobj, S', X', e16', e15', I', hL', rec', B'⟩
      simp only [en_cell e15', aq_cell e16', enL, aqL, List.getElem?_cons_zero, List.getElem?_cons_succ, oI_some, oB_some, oS_some, xIdxA_eq ht8]
      have ha8 : e.thread.toNat < ats.length := by rw [X'.al]; omega
      have hset := rec_set (enc := atE) atE_len (junk := []) (g.th e.thread, p, L.length, cc) (t', p', L'.length, c') hat 0 (aqL t' p' L'.length c') (setW_all (aqL t' p' L'.length c') [] (aqL (g.th e.thread) p L.length cc) rfl) (Nat.le_refl _)
      rw [Nat.add_zero] at hset
      rw [add_mk, Nat.zero_add]
      refine xSt_mk X'.a rfl (by decide) (aq_one t' p' L'.length c') (by rw [at_size X'.al]; omega) ?_
      have hset' : setN (recArr atE ats []) (e.thread.toNat * 6) [(.int .i64 t'.calls), (.bool t'.opn), (.int .i64 t'.op.kind), (.int .i64 t'.op.obj), (.int .i64 t'.op.arg), (.slice p' L'.length c')] = recArr atE (ats.set e.thread.toNat (t', p', L'.length, c')) [] := hset
      rw [hset']
      refine hK _ ⟨{ g' with entries := g'.entries ++ [e] }, R', _, S', ?_, hobj, X'.setA (by simpa using X'.al), ?_, yes g' ht⟩
      · show (g'.threads.length : Int) = t
        rw [hth', List.length_set]; exact hT
      · have cutup : ∀ O, (h'.upd b13 O).cut [b9, b10, b11, b13] = h'.cut [b9, b10, b11, b13] := by
          intro O
          funext y
          unfold PH.cut
          split
          · rfl
          · rename_i hy
            exact PH.upd_ne _ _ (fun e => hy (by simp [e]))
        rw [cutup]
        intro q hq
        have hq' : q < g.threads.length := by
          have : ({ g' with entries := g'.entries ++ [e] } : Gs).threads.length = g.threads.length := by show g'.threads.length = _; rw [hth', List.length_set]
          omega
        show ∃ p c L, _ = some (g'.threads.getD q th0, p, L.length, c) ∧ TI (g'.threads.getD q th0) L ∧ L.length ≤ i.toNat + 1 ∧ _
        rw [hth']
        by_cases e1 : q = e.thread.toNat
        · have hg : (g.threads.set e.thread.toNat t').getD q th0 = t' := by rw [e1, getD_set _ _ _ _ _ htl, if_pos rfl]
          rw [hg]
          refine ⟨p', c', L', ?_, I', hL', rec'⟩
          rw [e1, List.getElem?_set_self ha8]
        · have hg : (g.threads.set e.thread.toNat t').getD q th0 = g.threads.getD q th0 := by rw [getD_set _ _ _ _ _ htl, if_neg (Ne.symm e1)]
          rw [hg]
          obtain ⟨p2, c2, L2, r1, r2, r3, r4⟩ := rows q hq'
          exact ⟨p2, c2, L2, by rw [List.getElem?_set_ne (Ne.symm e1)]; exact r1, r2, by omega, r4.le (Bcut B')⟩
    clear hK
    -- a call
    refine ⟨fun h1k => ?_, fun h1k => ?_⟩
    · have h1k := beq_iff_eq.1 h1k
      have tn : g.turn e = if ((g.th e.thread).opn || e.number != (g.th e.thread).calls || !mayOp g.objects g.threads.length e.op) = true then none
          else some (g.setTh e.thread ⟨e.op, IntKind.wrap .i64 ((g.th e.thread).calls + 1), true, 0, ev0⟩) := by
        unfold Gs.turn
        rw [hfit, if_neg (by simp), if_pos h1k]
      simp only [aq_cell e16, aqL, List.getElem?_cons_zero, List.getElem?_cons_succ, oB_some]
      refine xSc_or (e.number != (g.th e.thread).calls) (fun _ J hJ => by simp only [en_cell f15, aq_cell e16, enL, aqL, List.getElem?_cons_zero, List.getElem?_cons_succ, oI_some]; exact hJ) ?_
      refine xSc_or (!mayOp g.objects g.threads.length e.op) (fun _ J hJ => ?_) ?_
      · simp only [en_cell2 f15, enL, List.getElem?_cons_zero, List.getElem?_cons_succ, oI_some]
        refine (meets_may15 e.op t o).look ?_
        simp only [oB_some]
        rw [hT, hO] at hJ
        exact hJ
      refine ⟨fun hc => X9.ret (no (by rw [tn, if_pos hc])).symm, fun hc => ?_⟩
      have hc' : ¬((g.th e.thread).opn || e.number != (g.th e.thread).calls || !mayOp g.objects g.threads.length e.op) = true := by rw [hc]; simp
      rw [if_neg hc'] at tn
      have hmay : mayOp g.objects g.threads.length e.op = true := by
        simp only [Bool.or_eq_false_iff, Bool.not_eq_false'] at hc; exact hc.2
      simp only [en_cell2 f15, aq_cell e16, enL, aqL, List.getElem?_cons_zero, List.getElem?_cons_succ, oI_some]
      refine xSt_mk e16 rfl (by decide) (by simp [oneCell]) (by simp [aqL]) ?_
      rw [show setN (aqL (g.th e.thread) p L.length cc).toArray 0 [.int .i64 (IntKind.wrap .i64 ((g.th e.thread).calls + 1)), .bool true, .int .i64 e.op.kind, .int .i64 e.op.obj, .int .i64 e.op.arg, .slice none 0 0] = (aqL ⟨e.op, IntKind.wrap .i64 ((g.th e.thread).calls + 1), true, 0, ev0⟩ none 0 0).toArray from rfl]
      refine hK2 _ ⟨_, R, ⟨e.op, IntKind.wrap .i64 ((g.th e.thread).calls + 1), true, 0, ev0⟩, none, 0, [], tn, rfl, hO, S, X9.off _ n16h v1 v2 v3 v4, PH.upd_same _ _ _, by rw [PH.upd_ne _ _ d156]; exact f15, ti_open _ _ (mayOp_rng hmay), by simp, ⟨fun j y hj => (by cases hj)⟩, upd_le_upd B16 B9⟩
    have n1 : e.kind ≠ 1 := by simpa using h1k
    -- a commit
    refine ⟨fun h2k => ?_, fun h2k => ?_⟩
    · have h2k := beq_iff_eq.1 h2k
      have tn : g.turn e = if (!(g.th e.thread).takes e.event || g.model.code e.event != 0) = true then none
          else some { (g.setTh e.thread { g.th e.thread with many := IntKind.wrap .i64 ((g.th e.thread).many + 1), last := e.event }) with model := g.model.next e.event } := by
        unfold Gs.turn
        rw [hfit, if_neg (by simp), if_neg n1, if_pos h2k]
      obtain ⟨rn, rm⟩ := sim_rng S
      obtain ⟨ac, aS⟩ := sim_apply S e.event
      simp only [oBig_eq X9.m (rmA_size X9.w), en_cell2 f15, enL, List.getElem?_cons_zero, List.getElem?_cons_succ, oI_some]
      refine (meets_apply' S.wf rn rm e.event).look ?_
      refine used14 (wf_apply S e.event) ?_
      try simp only [oAgg_mk, oI_some]
      refine ⟨rmA_size aS.wf, ?_⟩
      intro b17 n17
      refine xSt_all (PH.upd_same _ _ _) zero_size (rmA_size aS.wf) (by decide) (one_rm _) ?_
      have l10 := upd_le_upd (O := .cells (rmA (R.apply e.event).1) 77 (0, 0)) n17 (PH.le_upd (O := .cells (zeroC Try.prog 77) 77 (0, 0)) n17)
      have e17 := PH.upd_same (h9.upd b17 (.cells (zeroC Try.prog 77) 77 (0, 0))) b17 (.cells (rmA (R.apply e.event).1) 77 (0, 0))
      generalize (h9.upd b17 (.cells (zeroC Try.prog 77) 77 (0, 0))).upd b17 (.cells (rmA (R.apply e.event).1) 77 (0, 0)) = h10 at l10 e17
      have X10 := X9.le l10
      have q16 := l10 _ _ e16
      have q15 := l10 _ _ f15
      have B10 := PH.le_trans B9 l10
      simp only [en_cell2 q15, aq_cell q16, enL, aqL, List.getElem?_cons_zero, List.getElem?_cons_succ, oI_some, oB_some, oS_some]
      refine (meets_commit I (rec.le B10) e.event).look ?_
      simp only [oB_some]
      refine xSc_or ((R.apply e.event).2 != 0) (fun _ J hJ => hJ) ?_
      rw [ac]
      refine ⟨fun hc => X10.ret (no (by rw [tn, if_pos hc])).symm, fun hc => ?_⟩
      have hc' : ¬(!(g.th e.thread).takes e.event || g.model.code e.event != 0) = true := by rw [hc]; simp
      rw [if_neg hc'] at tn
      have htk : (g.th e.thread).takes e.event = true := by
        simp only [Bool.or_eq_false_iff, Bool.not_eq_false'] at hc; exact hc.1
      simp only [oBig_eq e17 (rmA_size aS.wf)]
      refine xSt_all X10.m (rmA_size X10.w) (rmA_size aS.wf) (by decide) (one_rm _) ?_
      have X11 := X10.setM aS.wf
      have B11 : (h7.cut [b9, b10, b11, b13]).le (h10.upd b11 (.cells (rmA (R.apply e.event).1) 77 (0, 0))) := upd_le_upd (Bn b11 (by simp)) B10
      have r16 : (h10.upd b11 (.cells (rmA (R.apply e.event).1) 77 (0, 0))) b16 = some (.cells (aqL (g.th e.thread) p L.length cc).toArray 94 (0, 0)) := by rw [PH.upd_ne _ _ v3]; exact q16
      have r15 : (h10.upd b11 (.cells (rmA (R.apply e.event).1) 77 (0, 0))) b15 = some (.cells (enL e).toArray 88 (0, 0)) := by rw [PH.upd_ne _ _ u3]; exact q15
      generalize h10.upd b11 (.cells (rmA (R.apply e.event).1) 77 (0, 0)) = h11 at X11 B11 r16 r15
      clear X10 q16 q15 B10 e17 l10
      have rec11 := rec.le B11
      refine xDraw_le ?_
      simp only [en_cell2 r15, aq_cell r16, enL, aqL, List.getElem?_cons_zero, List.getElem?_cons_succ, oI_some, oS_some]
      have hLb : L.length ≤ 500 := by omega
      have I' := ti_commit I htk (by omega)
      have tail : ∀ (p' : Option Addr) (n' c' : Nat) (h12 : PH) (S' : List Nat), RowIn evL 5 29 h12 p' n' c' (L ++ [e.event]) S' → h11.le h12 → (∀ b ∈ S', h11 b = none) → xSt 1 h12 ((⟨b16, 0, none⟩ : Addr).add 5) [.slice p' n' c'] K2 := by
        intro p' n' c' h12 S' row l12 nS
        have hn' : n' = (L ++ [e.event]).length := row.1
        rw [add_mk, Nat.zero_add]
        refine xSt_mk (l12 _ _ r16) rfl (by decide) (by simp [oneCell]) (by simp [aqL]) ?_
        rw [show setN (aqL (g.th e.thread) p L.length cc).toArray 5 [.slice p' n' c'] = (aqL { g.th e.thread with many := IntKind.wrap .i64 ((g.th e.thread).many + 1), last := e.event } p' n' c').toArray from rfl, hn']
        have X12 := X11.le l12
        have ne16 : ∀ b ∈ S', b ≠ b16 := fun b hb e => by subst e; rw [nS b hb] at r16; cases r16
        have row13 : RowIn evL 5 29 ((h12.upd b16 (.cells (aqL { g.th e.thread with many := IntKind.wrap .i64 ((g.th e.thread).many + 1), last := e.event } p' (L ++ [e.event]).length c').toArray 94 (0, 0))).cut [b9, b10, b11, b13]) p' n' c' (L ++ [e.event]) S' := by
          refine row.of fun b hb => ?_
          obtain ⟨w1, w2, w3, w4⟩ := X11.ne (nS b hb)
          rw [PH.cut_at (by simp [w1, w2, w3, w4]), PH.upd_ne _ _ (ne16 b hb)]
        refine hK2 _ ⟨_, _, { g.th e.thread with many := IntKind.wrap .i64 ((g.th e.thread).many + 1), last := e.event }, p', c', L ++ [e.event], tn, rfl, hO, aS, X12.off _ n16h v1 v2 v3 v4, PH.upd_same _ _ _, by rw [PH.upd_ne _ _ d156]; exact l12 _ _ r15, I', by simp; omega, row13.recs ev_len, upd_le_upd B16 (PH.le_trans B11 l12)⟩
      refine ⟨?_, ?_⟩
      · refine xCopyR ev_len (by decide) ev_one rec11 rfl (by omega) fun pa la ca h12 Sa rowa l12 nSa => ⟨l12, ?_⟩
        intro b155 n155
        refine ⟨PH.le_trans l12 (PH.le_upd n155), ?_⟩
        have rowb := rowa.le (PH.le_upd (O := .cells #[(.int .i64 e.event.kind), (.int .i64 e.event.thread), (.int .i64 e.event.obj), (.int .i64 e.event.arg), (.int .i64 e.event.err)] 29 (0, 0)) n155)
        have l13 := PH.le_trans l12 (PH.le_upd (O := .cells #[(.int .i64 e.event.kind), (.int .i64 e.event.thread), (.int .i64 e.event.obj), (.int .i64 e.event.arg), (.int .i64 e.event.err)] 29 (0, 0)) n155)
        refine rowb.app (x := e.event) ev_len (ev_one _) (PH.upd_same _ _ _) (by omega) ?_
        intro p' n' c' h14 S' row' x14 nS'
        have l14 : h11.le h14 := fun y O hy => x14 y O (l13 y O hy) fun hm => by rw [nSa y hm] at hy; cases hy
        refine ⟨l14, tail p' n' c' h14 S' row' l14 fun b hb => ?_⟩
        rcases nS' b hb with h' | h'
        · exact nSa b h'
        · exact none_of l13 h'
      · intro b155 n155
        refine ⟨PH.le_upd n155, ?_⟩
        have l12 := PH.le_upd (O := .cells #[(.int .i64 e.event.kind), (.int .i64 e.event.thread), (.int .i64 e.event.obj), (.int .i64 e.event.arg), (.int .i64 e.event.err)] 29 (0, 0)) n155
        have e155 := PH.upd_same h11 b155 (.cells #[(.int .i64 e.event.kind), (.int .i64 e.event.thread), (.int .i64 e.event.obj), (.int .i64 e.event.arg), (.int .i64 e.event.err)] 29 (0, 0))
        generalize h11.upd b155 (.cells #[(.int .i64 e.event.kind), (.int .i64 e.event.thread), (.int .i64 e.event.obj), (.int .i64 e.event.arg), (.int .i64 e.event.err)] 29 (0, 0)) = h12 at l12 e155
        refine xCopyR ev_len (by decide) ev_one (rec11.le l12) rfl (by omega) fun pa la ca h13 Sa rowa l13 nSa => ⟨PH.le_trans l12 l13, ?_⟩
        have l13' := PH.le_trans l12 l13
        refine rowa.app (x := e.event) ev_len (ev_one _) (l13 _ _ e155) (by omega) ?_
        intro p' n' c' h14 S' row' x14 nS'
        have l14 : h11.le h14 := fun y O hy => x14 y O (l13' y O hy) fun hm => by have := none_of l12 (nSa y hm); rw [this] at hy; cases hy
        refine ⟨l14, tail p' n' c' h14 S' row' l14 fun b hb => ?_⟩
        rcases nS' b hb with h' | h'
        · exact none_of l12 (nSa b h')
        · exact none_of l13' h'
    have n2 : e.kind ≠ 2 := by simpa using h2k
    have h3k : e.kind = 3 := by omega
    -- a return
    have tn : g.turn e = if (!(g.th e.thread).told.2.2 || e.number != IntKind.wrap .i64 ((g.th e.thread).calls - 1) || e.value != (g.th e.thread).told.1 || e.err != (g.th e.thread).told.2.1) = true then none
        else some (g.setTh e.thread ⟨op0, (g.th e.thread).calls, false, 0, ev0⟩) := by
      unfold Gs.turn
      rw [hfit, if_neg (by simp), if_neg n1, if_neg n2, if_pos h3k]
    simp only [aq_cell e16, aqL, List.getElem?_cons_zero, List.getElem?_cons_succ, oI_some, oB_some, oS_some]
    refine (meets_told15 I (rec.le B9)).look ?_
    unfold toldV
    simp only [oTup_mk, oIx_some, oB_some, oI_some, List.getElem?_toArray, List.getElem?_cons_zero, List.getElem?_cons_succ]
    refine ⟨rfl, ?_⟩
    refine xSc_or (e.number != IntKind.wrap .i64 ((g.th e.thread).calls - 1)) (fun _ J hJ => by simp only [en_cell f15, aq_cell e16, enL, aqL, List.getElem?_cons_zero, List.getElem?_cons_succ, oI_some]; exact hJ) ?_
    refine xSc_or (e.value != (g.th e.thread).told.1) (fun _ J hJ => by simp only [en_cell f15, enL, List.getElem?_cons_zero, List.getElem?_cons_succ, oI_some]; exact hJ) ?_
    refine xSc_or (e.err != (g.th e.thread).told.2.1) (fun _ J hJ => by simp only [en_cell f15, enL, List.getElem?_cons_zero, List.getElem?_cons_succ, oI_some]; exact hJ) ?_
    refine ⟨fun hc => X9.ret (no (by rw [tn, if_pos hc])).symm, fun hc => ?_⟩
    rw [if_neg (by rw [hc]; simp)] at tn
    simp only [aq_cell e16, aqL, List.getElem?_cons_zero, List.getElem?_cons_succ, oI_some]
    refine xSt_mk e16 rfl (by decide) (by simp [oneCell]) (by simp [aqL]) ?_
    rw [show setN (aqL (g.th e.thread) p L.length cc).toArray 0 [.int .i64 (g.th e.thread).calls, .bool false, .int .i64 0, .int .i64 0, .int .i64 0, .slice none 0 0] = (aqL ⟨op0, (g.th e.thread).calls, false, 0, ev0⟩ none 0 0).toArray from rfl]
    exact hK2 _ ⟨_, R, ⟨op0, (g.th e.thread).calls, false, 0, ev0⟩, none, 0, [], tn, rfl, hO, S, X9.off _ n16h v1 v2 v3 v4, PH.upd_same _ _ _, by rw [PH.upd_ne _ _ d156]; exact f15, ti_shut _ _, by simp, ⟨fun j y hj => (by cases hj)⟩, upd_le_upd B16 B9⟩

end Go.Gh

/-
  The walk of GhostRight.
-/
set_option linter.unusedSimpArgs false
set_option linter.unusedVariables false
namespace Go.Gh
open Go Go.Sx Go.Md Go.Rf Go.Proofs Go.Proofs.Ytnnedfhpicdacaa
open Go.Ck (newOk_rng)

theorem rt_le : ∀ (l : List En) (g : Gs), (rt g l).1 ≤ l.length := by
  intro l
  induction l with
  | nil => intro g; simp [rt]
  | cons e l ih =>
    intro g
    rw [rt_cons]
    split
    · have := ih (g.next e); simp; omega
    · simp
theorem rt_flag : ∀ (l : List En) (g : Gs), (rt g l).2 = ((rt g l).1 == l.length) := by
  intro l
  induction l with
  | nil => intro g; rfl
  | cons e l ih =>
    intro g
    rw [rt_cons]
    split
    · show (rt (g.next e) l).2 = ((rt (g.next e) l).1 + 1 == l.length + 1)
      rw [ih, Bool.eq_iff_iff]; simp
    · rfl
theorem rt_take : ∀ (l : List En) (g : Gs) (k : Nat), k ≤ (rt g l).1 → rt g (l.take k) = (k, true) := by
  intro l
  induction l with
  | nil =>
    intro g k hk
    have : k = 0 := by simpa [rt] using hk
    subst this; rfl
  | cons e l ih =>
    intro g k hk
    cases k with
    | zero => rfl
    | succ k =>
      rw [rt_cons] at hk
      split at hk
      · rename_i hc
        rw [List.take_succ_cons, rt_cons, if_pos hc, ih (g.next e) k (by simpa using hk)]
      · simp at hk

def rightT (t o m : Int) (l : List En) : Nat × Bool := if newOk t o m = true then rt (Gs.new t o m) l else (0, l.length == 0)
theorem rightT_le (t o m : Int) (l : List En) : (rightT t o m l).1 ≤ l.length := by
  unfold rightT; split
  · exact rt_le _ _
  · simp
theorem rightT_flag (t o m : Int) (l : List En) : (rightT t o m l).2 = ((rightT t o m l).1 == l.length) := by
  unfold rightT; split
  · exact rt_flag _ _
  · show (l.length == 0) = (0 == l.length)
    rw [Bool.eq_iff_iff]; simp only [beq_iff_eq]; omega
theorem rightT_take (t o m : Int) (l : List En) (k : Nat) (h : k ≤ (rightT t o m l).1) : rightT t o m (l.take k) = (k, true) := by
  unfold rightT at h ⊢
  split
  · rename_i ok
    rw [if_pos ok] at h
    exact rt_take _ _ k h
  · rename_i ok
    rw [if_neg ok] at h
    have : k = 0 := by simpa using h
    subst this; rfl

set_option maxHeartbeats 1000000 in
theorem meets_gRight {h : PH} {a : Option Addr} {n c : Nat} {l : List En} (x : EnsAt h a l) (hl : l.length = n) (hn : n ≤ 500) (t o m : Int) :
    Meets Try.prog 36 #[.int .i64 t, .int .i64 o, .int .i64 m, .slice a n c] h fun v h' => v = .tuple #[.int .i64 (rightT t o m l).1, .bool (rightT t o m l).2] ∧ h' = h := by
  apply Meets.same
  apply P_ghost_Right_of
  unfold P_ghost_Right
  cases ok : newOk t o m with
  | false =>
    refine (meets_gNew_no t o m ok).look ?_
    simp only [oTup_mk, oIx_some, oP_some, oI_some, List.getElem?_toArray, List.getElem?_cons_zero, List.getElem?_cons_succ]
    refine ⟨rfl, fun _ => ⟨?_, PH.le_refl _⟩, fun hx => (by cases hx)⟩
    unfold rightT
    rw [ok, if_neg (by simp), hl]
    have hb : ((n : Int) == 0) = (n == 0) := by rw [Bool.eq_iff_iff]; simp
    show Value.tuple #[.int .i64 0, .bool ((n : Int) == 0)] = .tuple #[.int .i64 0, .bool (n == 0)]
    rw [hb]
  | true =>
    refine (meets_gNew t o m ok).mono ?_
    rintro _ h1 ⟨w, rfl, f⟩
    have own := GOwn.of_fresh (PH.le_refl h) f
    obtain ⟨p, rfl⟩ := pointer_of own
    clear f
    obtain ⟨ht, ho⟩ := newOk_rng ok
    have k0 := gnew_ok t o m ht ho
    have len0 : (Gs.new t o m).entries.length = 0 := rfl
    have eT : rightT t o m l = rt (Gs.new t o m) l := by unfold rightT; rw [if_pos ok]
    rw [eT]
    generalize Gs.new t o m = g0 at own k0 len0
    simp only [oTup_mk, oIx_some, oP_some, oI_some, List.getElem?_toArray, List.getElem?_cons_zero, List.getElem?_cons_succ]
    refine ⟨rfl, fun hx => (by cases hx), fun _ => ?_⟩
    refine xBlk_split (fun h' => rt g0 l = (n, true) ∧ h.le h') ?_ fun K hK => ?_
    · rintro h' ⟨e, le⟩
      rw [e]; exact ⟨rfl, le⟩
    refine xLoop1 (fun (i : Int) h' => 0 ≤ i ∧ i ≤ n ∧ ∃ g : Gs, g.Ok ∧ g.entries.length ≤ i.toNat ∧ GOwn h h' (.pointer (some p)) g ∧ rt g0 l = (i.toNat + (rt g (l.drop i.toNat)).1, (rt g (l.drop i.toNat)).2)) (fun (i : Int) _ => ((n : Int) - i).toNat) ?_ ⟨by omega, by omega, g0, k0, by omega, own, by simp⟩
    rintro J i h2 ⟨i0, i1, g, kg, len, own, hs⟩ hJ
    refine ⟨fun hx => ?_, fun hx => ?_⟩
    · have hx := of_decide_eq_true hx
      have hw : IntKind.wrap .i64 (i + 1) = i + 1 := wrap64_id (by omega) (by omega)
      have hi : i.toNat < l.length := by omega
      have hd : l.drop i.toNat = l[i.toNat] :: l.drop (i.toNat + 1) := List.drop_eq_getElem_cons hi
      rw [hd] at hs
      obtain ⟨b, rfl, hcell⟩ := (x.le own.base).at_ i.toNat _ (List.getElem?_eq_getElem hi)
      generalize l[i.toNat] = e at hcell hs
      have step : ∀ h' (g' : Gs), g'.Ok → g'.entries.length ≤ i.toNat + 1 → GOwn h h' (.pointer (some p)) g' → rt g0 l = (i.toNat + 1 + (rt g' (l.drop (i.toNat + 1))).1, (rt g' (l.drop (i.toNat + 1))).2) → J (i + 1) h' := fun h' g' k1 k2 k3 k4 => hJ _ _ ⟨by omega, by omega, g', k1, by omega, k3, by rw [show (i + 1).toNat = i.toNat + 1 from by omega]; exact k4⟩ (by omega)
      clear hJ hK
      refine xBlk_split (fun h' => ∃ g' : Gs, g'.Ok ∧ g'.entries.length ≤ i.toNat + 1 ∧ GOwn h h' (.pointer (some p)) g' ∧ rt g0 l = (i.toNat + 1 + (rt g' (l.drop (i.toNat + 1))).1, (rt g' (l.drop (i.toNat + 1))).2)) (fun h' ⟨g', k1, k2, k3, k4⟩ => by rw [hw]; exact step h' g' k1 k2 k3 k4) fun K hK => ?_
      clear step
      refine ⟨b, rfl, i0, hx, ?_⟩
      have c0 := hcell 0 _ rfl
      have c1 := hcell 1 _ rfl
      have c2 := hcell 2 _ rfl
      have c3 := hcell 3 _ rfl
      have c4 := hcell 4 _ rfl
      have c5 := hcell 5 _ rfl
      have c6 := hcell 6 _ rfl
      have c7 := hcell 7 _ rfl
      have c8 := hcell 8 _ rfl
      have c9 := hcell 9 _ rfl
      have c10 := hcell 10 _ rfl
      have c11 := hcell 11 _ rfl
      have c12 := hcell 12 _ rfl
      simp only [c0, c1, c2, c3, c4, c5, c6, c7, c8, c9, c10, c11, c12, oI_some]
      refine xBox rfl rfl rfl (by decide) (en_one e) fun b13 h3 l3 n13 e13 => ?_
      have e13 : h3 b13 = some (.cells (enL e).toArray 90 (0, 0)) := e13
      simp only [en_cell e13, enL, List.getElem?_cons_zero, List.getElem?_cons_succ, oI_some]
      have own3 := own.le l3
      refine (own3.add e (by omega) kg.m.few).mono ?_
      rintro _ h4 ⟨rfl, own4⟩
      simp only [oI_some]
      rw [rt_cons] at hs
      refine ⟨fun hc => ?_, fun hc => ?_⟩
      · have hc : g.code e ≠ 0 := by simpa using hc
        rw [if_neg hc] at hs
        have : ((i.toNat : Nat) : Int) = i := by omega
        rw [hs]
        exact ⟨by simp [this], own4.base⟩
      · have hc : g.code e = 0 := by simpa using hc
        rw [if_pos hc] at hs
        have := gnext_len g e
        exact hK _ ⟨_, gnext_ok kg e, by omega, own4, by rw [hs]; simp only [Prod.mk.injEq, and_true]; omega⟩
    · have hx := of_decide_eq_false hx
      have : l.drop i.toNat = [] := List.drop_eq_nil_of_le (by omega)
      rw [this] at hs
      refine hK _ ⟨?_, own.base⟩
      rw [hs]
      simp only [rt, Prod.mk.injEq, and_true]
      omega


set_option maxHeartbeats 4000000 in
theorem meets_GhostRight {h : PH} {a : Option Addr} {n0 c0 : Nat} {l0 : List En} (x0 : EnsAt h a l0) (hl0 : l0.length = n0) (hc0 : n0 ≤ c0) (t o m u : Int) (hu : 0 ≤ u ∧ u ≤ 255) :
    Meets Try.prog 8 #[.agg #[.int .i64 t, .int .i64 o, .int .i64 m], .slice a n0 c0, .int .u8 u] h fun v h' => v = .bool true ∧ h' = h := by
  apply Meets.same
  apply P_law15_GhostRight_of
  unfold P_law15_GhostRight
  refine xNew_intro fun b3 h1 l1 n3 e3 => ?_
  have s0 : ∀ {h' : PH}, h1.le h' → h'.cell ((⟨b3, 0, none⟩ : Addr).add (Int.toNat 0 * 1)) = some (.int .i64 t) := fun le => by rw [cellAdd (le _ _ e3)]; rfl
  have s1 : ∀ {h' : PH}, h1.le h' → h'.cell ((⟨b3, 0, none⟩ : Addr).add (Int.toNat 1 * 1)) = some (.int .i64 o) := fun le => by rw [cellAdd (le _ _ e3)]; rfl
  have s2 : ∀ {h' : PH}, h1.le h' → h'.cell ((⟨b3, 0, none⟩ : Addr).add (Int.toNat 2 * 1)) = some (.int .i64 m) := fun le => by rw [cellAdd (le _ _ e3)]; rfl
  have i0 : ∀ {K : Addr → Prop}, xIdxA ⟨b3, 0, none⟩ 3 0 1 K = K ((⟨b3, 0, none⟩ : Addr).add (Int.toNat 0 * 1)) := xIdxA_eq (by decide)
  have i1 : ∀ {K : Addr → Prop}, xIdxA ⟨b3, 0, none⟩ 3 1 1 K = K ((⟨b3, 0, none⟩ : Addr).add (Int.toNat 1 * 1)) := xIdxA_eq (by decide)
  have i2 : ∀ {K : Addr → Prop}, xIdxA ⟨b3, 0, none⟩ 3 2 1 K = K ((⟨b3, 0, none⟩ : Addr).add (Int.toNat 2 * 1)) := xIdxA_eq (by decide)
  refine (meets_short15 hc0).mono ?_
  rintro _ _ ⟨⟨cs, rfl⟩, rfl⟩
  simp only [oS_some]
  have x := (x0.take (min n0 120)).le l1
  have hl : (l0.take (min n0 120)).length = min n0 120 := by rw [List.length_take]; omega
  have hn : min n0 120 ≤ 120 := by omega
  clear x0
  generalize l0.take (min n0 120) = l at x hl
  generalize min n0 120 = n at hl hn ⊢
  rename_i h1
  refine xBlk_split3 (fun p k c' h' => k = n ∧ ∃ S, RowIn enL 13 90 h' p k c' l S ∧ h1.le h') ?_ fun K hK => ?_
  rotate_left
  · refine xLoop4 (fun p k c' (i : Int) h' => 0 ≤ i ∧ i ≤ n ∧ ∃ S, RowIn enL 13 90 h' p k c' (l.take i.toNat) S ∧ h1.le h' ∧ ∀ b ∈ S, h1 b = none) (fun _ _ _ (i : Int) _ => ((n : Int) - i).toNat) ?_ ⟨by omega, by omega, [], by simpa using RowIn.nil _ _, PH.le_refl h1, by simp⟩
    rintro J p k c' i h2 ⟨q0, q1, S, r, le, nS⟩ hJ
    refine ⟨fun hx => ?_, fun hx => ?_⟩
    · have hx := of_decide_eq_true hx
      have hw : IntKind.wrap .i64 (i + 1) = i + 1 := wrap64_id (by omega) (by omega)
      have hi : i.toNat < l.length := by omega
      have htk : l.take (i.toNat + 1) = l.take i.toNat ++ [l[i.toNat]] := List.take_succ_eq_append_getElem hi
      obtain ⟨b, rfl, hcell⟩ := (x.le le).at_ i.toNat _ (List.getElem?_eq_getElem hi)
      have step : ∀ p' k' c'' h' S', RowIn enL 13 90 h' p' k' c'' (l.take (i.toNat + 1)) S' → h1.le h' → (∀ b ∈ S', h1 b = none) → J p' k' c'' (i + 1) h' := fun p' k' c'' h' S' r' l' n' => hJ _ _ _ _ _ ⟨by omega, by omega, S', by rw [show (i + 1).toNat = i.toNat + 1 from by omega]; exact r', l', n'⟩ (by omega)
      rw [htk] at step
      generalize l[i.toNat] = e at hcell step
      clear hJ hK
      refine xBlk_split3 (fun p' k' c'' h' => ∃ S', RowIn enL 13 90 h' p' k' c'' (l.take i.toNat ++ [e]) S' ∧ h1.le h' ∧ ∀ b ∈ S', h1 b = none) (fun p' k' c'' h' ⟨S', r', l', n'⟩ => by rw [hw]; exact step p' k' c'' h' S' r' l' n') fun K hK => ?_
      clear step
      refine ⟨b, rfl, q0, hx, ?_⟩
      have c0 := hcell 0 _ rfl
      have c1 := hcell 1 _ rfl
      have c2 := hcell 2 _ rfl
      have c3 := hcell 3 _ rfl
      have c4 := hcell 4 _ rfl
      have c5 := hcell 5 _ rfl
      have c6 := hcell 6 _ rfl
      have c7 := hcell 7 _ rfl
      have c8 := hcell 8 _ rfl
      have c9 := hcell 9 _ rfl
      have c10 := hcell 10 _ rfl
      have c11 := hcell 11 _ rfl
      have c12 := hcell 12 _ rfl
      simp only [c0, c1, c2, c3, c4, c5, c6, c7, c8, c9, c10, c11, c12, oI_some]
      refine xBox rfl rfl rfl (by decide) (en_one e) fun b9 h3 l3 n9 e9 => ?_
      have e9 : h3 b9 = some (.cells (enL e).toArray 88 (0, 0)) := e9
      simp only [en_cell e9, enL, List.getElem?_cons_zero, List.getElem?_cons_succ, oI_some]
      refine (meets_theirs15 e).look ?_
      unfold enV
      simp only [oAgg_mk, List.getElem?_toArray, List.getElem?_cons_zero, List.getElem?_cons_succ, oI_some]
      refine ⟨rfl, ?_⟩
      refine xNew_intro fun b29 h4 l4 n29 e29 => ?_
      have le4 := PH.le_trans le (PH.le_trans l3 l4)
      have r4 := r.le (PH.le_trans l3 l4)
      have len : (l.take i.toNat).length ≤ 120 := by rw [List.length_take]; omega
      refine r4.app (x := e) enL_len (en_one e) e29 (by omega) ?_
      intro p' k' c'' h6 S' r6 x6 n6
      refine hK _ _ _ _ ⟨S', r6, fun y O hy => x6 y O (le4 _ _ hy) fun hm => (by rw [nS y hm] at hy; cases hy), fun b hb => ?_⟩
      rcases n6 b hb with h' | h'
      · exact nS b h'
      · exact none_of le4 h'
    · have hx := of_decide_eq_false hx
      have e : l.take i.toNat = l := List.take_of_length_le (by omega)
      rw [e] at r
      exact hK _ _ _ _ ⟨r.1.trans hl, S, r, le⟩
  rintro p k c' h2 ⟨ek, S, row, le2⟩
  obtain rfl := ek.symm
  clear ek
  have ens : ∀ {h' : PH}, h2.le h' → EnsAt h' p l := fun {h'} le => by
    have := (row.recs enL_len).le le
    exact ⟨this.at_⟩
  have z := PH.le_refl h2
  simp only [i0, i1, i2, s0 le2, s1 le2, s2 le2, oI_some]
  refine (meets_gRight (ens z) hl (by omega) t o m).look ?_
  simp only [oTup_mk, oIx_some, oB_some, oI_some, List.getElem?_toArray, List.getElem?_cons_zero, List.getElem?_cons_succ]
  refine ⟨rfl, ?_⟩
  simp only [i0, i1, i2, s0 le2, s1 le2, s2 le2, oI_some]
  refine (meets_rRight (x.le le2) hl (by omega) t o m).mono ?_
  rintro v _ ⟨⟨ma, aa, zm, za, om, oa, rfl⟩, rfl⟩
  rename_i h2
  simp only [oTup_mk, oIx_some, oI_some, oAgg_mk, List.getElem?_toArray, List.getElem?_cons_zero, List.getElem?_cons_succ]
  refine ⟨rfl, zm, za, ?_⟩
  try simp only [oAgg_mk]
  refine ⟨zm, za, ?_⟩
  intro b13 n13 b14 n14
  obtain ⟨q, n14'⟩ := upd_none n14
  have zs : (zeroC Try.prog 95).size = 48 := by rw [zero_at]; exact at_size (by simp)
  refine xSt_all ((PH.upd_ne _ _ q).trans (PH.upd_same _ _ _)) zero_size zm (by decide) om ?_
  refine xSt_all ((PH.upd_ne _ _ (Ne.symm q)).trans (PH.upd_same _ _ _)) zs za (by decide) oa ?_
  have l3 : h2.le ((((h2.upd b13 (.cells (zeroC Try.prog 77) 77 (0, 0))).upd b14 (.cells (zeroC Try.prog 95) 95 (0, 0))).upd b13 (.cells ma 77 (0, 0))).upd b14 (.cells aa 95 (0, 0))) :=
    upd_le_upd n14' (upd_le_upd n13 (upd_le_upd n14' (PH.le_upd n13)))
  generalize (((h2.upd b13 (.cells (zeroC Try.prog 77) 77 (0, 0))).upd b14 (.cells (zeroC Try.prog 95) 95 (0, 0))).upd b13 (.cells ma 77 (0, 0))).upd b14 (.cells aa 95 (0, 0)) = h3 at l3 ⊢
  have hval : (if newOk t o m = true then ((rt (Gs.new t o m) l).1 : Int) else 0) = ((rightT t o m l).1 : Int) := by
    unfold rightT
    split <;> rfl
  rw [hval]
  have kle := rightT_le t o m l
  have kfl := rightT_flag t o m l
  have ktk := rightT_take t o m l
  generalize (rightT t o m l).1 = r at kle kfl ktk ⊢
  generalize (rightT t o m l).2 = rb at kfl ⊢
  refine xSc_or (!(rb == ((r : Int) == (n : Int)))) (fun _ J hJ => hJ) ?_
  refine xSc_or (decide ((r : Int) < 0)) (fun _ J hJ => hJ) ?_
  refine xSc_or (decide ((r : Int) > (n : Int))) (fun _ J hJ => hJ) ?_
  have hrb : rb = ((r : Int) == (n : Int)) := by
    rw [kfl, hl, Bool.eq_iff_iff]; simp only [beq_iff_eq]; omega
  have hno : ((r : Int) != (r : Int) || !(rb == ((r : Int) == (n : Int))) || decide ((r : Int) < 0) || decide ((r : Int) > (n : Int))) = false := by
    rw [hrb]; simp <;> omega
  rw [hno]
  refine ⟨fun hx => (by cases hx), fun _ => ?_⟩
  have hwu : IntKind.wrap .i64 u = u := wrap64_id (by omega) (by omega)
  have hwr : IntKind.wrap .i64 ((r : Int) + 1) = (r : Int) + 1 := wrap64_id (by omega) (by omega)
  rw [hwu, hwr]
  refine ⟨by omega, ?_⟩
  have hmod : u.tmod ((r : Int) + 1) = u % ((r : Int) + 1) := Int.tmod_eq_emod_of_nonneg hu.1
  have hm0 : 0 ≤ u % ((r : Int) + 1) := Int.emod_nonneg _ (by omega)
  have hm1 : u % ((r : Int) + 1) < (r : Int) + 1 := Int.emod_lt_of_pos _ (by omega)
  rw [hmod]
  generalize hk : (u % ((r : Int) + 1)).toNat = k
  have hkc : u % ((r : Int) + 1) = (k : Int) := by omega
  rw [hkc] at hm1 ⊢
  refine xDraw_le ?_
  have le3 := PH.le_trans le2 l3
  simp only [i0, i1, i2, s0 le3, s1 le3, s2 le3, oI_some]
  have hcap := row.le_cap
  refine ⟨⟨by simp, by simp, by simp; omega⟩, ?_⟩
  have hbase : (if c' = (Int.toNat ((none : Option Int).getD 0)) then p else p.map fun y => y.add (Int.toNat ((none : Option Int).getD 0) * 13)) = p := by
    split
    · rfl
    · cases p with
      | none => rfl
      | some y => simp
  rw [hbase]
  have hlen : ((some (k : Int)).getD (n : Int)).toNat - Int.toNat ((none : Option Int).getD 0) = k := by simp
  rw [hlen]
  refine (meets_gRight ((ens l3).take k) (by rw [List.length_take]; omega) (by omega) t o m).look ?_
  rw [ktk k (by omega)]
  simp only [oTup_mk, oIx_some, oB_some, oI_some, List.getElem?_toArray, List.getElem?_cons_zero, List.getElem?_cons_succ]
  refine ⟨rfl, PH.le_refl _, ?_⟩
  refine xSc_and true (fun _ J hJ => hJ) ?_
  refine xSc_and true (fun _ J hJ => ?_) ⟨by simp, PH.le_trans l1 le3⟩
  refine meets_alive15.look ?_
  simp only [oB_some]
  exact hJ

end Go.Gh
