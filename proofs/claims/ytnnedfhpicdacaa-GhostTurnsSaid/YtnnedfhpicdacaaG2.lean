/-
  A log in memory.
-/
import Derived.Test.YtnnedfhpicdacaaG1
set_option linter.unusedSimpArgs false
set_option linter.unusedVariables false
namespace Go.Gh
open Go Go.Sx Go.Md Go.Proofs Go.Proofs.Ytnnedfhpicdacaa



structure GL where
  l : Nat
  tb : Nat
  M : ML
  eb : Option Nat
def GL.all (G : GL) : List Nat := G.l :: G.tb :: (G.M.all ++ G.eb.toList)
def gp (G : GL) : Value := .pointer (some ⟨G.l, 0, none⟩)

def EntsAt (h : PH) (eb : Option Nat) (base : Option Addr) (cap : Nat) (l : List En) : Prop :=
  (eb = none ∧ l = [] ∧ base = none ∧ cap = 0) ∨ ∃ b junk, eb = some b ∧ base = some ⟨b, 0, none⟩ ∧ h b = some (.cells (recArr enL l junk) 90 (0, 0)) ∧ List.length junk = (cap - l.length) * 13 ∧ l.length ≤ cap

structure GRep (h : PH) (G : GL) (g : Gs) : Prop where
  nd : G.all.Nodup
  nt : g.threads.length ≤ 8
  cl : ∃ c base cap, h G.l = some (.cells #[.int .i64 g.objects, .pointer (some ⟨G.M.m, 0, none⟩), .slice (some ⟨G.tb, 0, none⟩) g.threads.length c, .slice base g.entries.length cap] 109 (0, 0)) ∧ EntsAt h G.eb base cap g.entries
  ct : ∃ junk, h G.tb = some (.cells (recArr thL g.threads junk) 147 (0, 0))
  cm : MRep h G.M g.model

theorem EntsAt.of {h h' : PH} {eb : Option Nat} {base : Option Addr} {cap : Nat} {l : List En} (r : EntsAt h eb base cap l) (e : ∀ b, eb = some b → h' b = h b) : EntsAt h' eb base cap l := by
  rcases r with r | ⟨b, junk, h1, h2, h3, h4⟩
  · exact .inl r
  · exact .inr ⟨b, junk, h1, h2, (e b h1).trans h3, h4⟩
theorem GRep.of {h h' : PH} {G : GL} {g : Gs} (r : GRep h G g) (e : ∀ b ∈ G.all, h' b = h b) : GRep h' G g := by
  obtain ⟨nd, nt, ⟨c, base, cap, cl, ce⟩, ct, cm⟩ := r
  have e1 := e G.l (by simp [GL.all]); have e2 := e G.tb (by simp [GL.all])
  refine ⟨nd, nt, ⟨c, base, cap, by rw [e1]; exact cl, ce.of fun b hb => e b (by simp [GL.all, hb])⟩, by rw [e2]; exact ct, cm.of fun b hb => e b (by simp [GL.all, hb])⟩
theorem GRep.known {h : PH} {G : GL} {g : Gs} (r : GRep h G g) : ∀ b ∈ G.all, ∃ O, h b = some O := by
  obtain ⟨nd, nt, ⟨c, base, cap, cl, ce⟩, ⟨j, ct⟩, cm⟩ := r
  intro b hb
  simp only [GL.all, List.mem_cons, List.mem_append] at hb
  rcases hb with rfl | rfl | hb | hb
  · exact ⟨_, cl⟩
  · exact ⟨_, ct⟩
  · exact cm.known b hb
  · rcases ce with ⟨h1, _⟩ | ⟨x, junk, h1, _, h3, _⟩
    · rw [h1] at hb; simp at hb
    · rw [h1] at hb; simp at hb; subst hb; exact ⟨_, h3⟩
theorem GRep.le {h h' : PH} {G : GL} {g : Gs} (r : GRep h G g) (l : h.le h') : GRep h' G g := by
  refine r.of fun b hb => ?_
  obtain ⟨O, hO⟩ := r.known b hb
  rw [hO]; exact l _ _ hO
theorem GRep.off {h : PH} {G : GL} {g : Gs} (r : GRep h G g) {b : Nat} (n : h b = none) : ∀ x ∈ G.all, x ≠ b := by
  intro x hx e
  obtain ⟨O, hO⟩ := r.known x hx
  subst e; rw [n] at hO; cases hO
theorem l_in (G : GL) : G.l ∈ G.all := by simp [GL.all]
theorem tb_in (G : GL) : G.tb ∈ G.all := by simp [GL.all]
theorem M_in (G : GL) : ∀ b ∈ G.M.all, b ∈ G.all := by intro b hb; simp [GL.all, hb]
theorem GRep.ltb {h : PH} {G : GL} {g : Gs} (r : GRep h G g) : G.l ≠ G.tb := by
  have := r.nd; simp only [GL.all, List.nodup_cons, List.mem_cons, not_or] at this; exact this.1.1
theorem GRep.lM {h : PH} {G : GL} {g : Gs} (r : GRep h G g) : ∀ b ∈ G.M.all, b ≠ G.l ∧ b ≠ G.tb := by
  have := r.nd; simp only [GL.all, List.nodup_cons, List.mem_cons, List.mem_append, not_or] at this
  intro b hb
  exact ⟨fun e => this.1.2.1 (e ▸ hb), fun e => this.2.1.1 (e ▸ hb)⟩
theorem GRep.lE {h : PH} {G : GL} {g : Gs} (r : GRep h G g) : ∀ b, G.eb = some b → b ≠ G.l ∧ b ≠ G.tb ∧ b ∉ G.M.all := by
  have := r.nd; simp only [GL.all, List.nodup_cons, List.mem_cons, List.mem_append, not_or, List.nodup_append] at this
  intro b hb
  obtain ⟨⟨_, _, a⟩, ⟨_, c⟩, ⟨_, _, d⟩⟩ := this
  refine ⟨fun e => a (by rw [hb]; simp [e]), fun e => c (by rw [hb]; simp [e]), fun hm => d b hm b (by rw [hb]; simp) rfl⟩

theorem GRep.setTh {h : PH} {G : GL} {g : Gs} (r : GRep h G g) {ts : List Th} (hl : ts.length = g.threads.length) (j : List Value) : GRep (h.upd G.tb (.cells (recArr thL ts j) 147 (0, 0))) G { g with threads := ts } := by
  have q1 := r.ltb
  have q2 := r.lM
  have q3 := r.lE
  obtain ⟨nd, nt, ⟨c, base, cap, cl, ce⟩, ct, cm⟩ := r
  refine ⟨nd, by simpa [hl] using nt, ⟨c, base, cap, by rw [PH.upd_ne _ _ q1, cl]; simp only [hl], ce.of fun b hb => PH.upd_ne _ _ (q3 b hb).2.1⟩, ⟨j, PH.upd_same _ _ _⟩, cm.of fun b hb => PH.upd_ne _ _ (q2 b hb).2⟩
theorem GRep.setM {h h' : PH} {G : GL} {g : Gs} (r : GRep h G g) {m : Ms} (hm : MRep h' G.M m) (x : Ext G.M.all h h') : GRep h' G { g with model := m } := by
  have q2 := r.lM
  have q3 := r.lE
  obtain ⟨nd, nt, ⟨c, base, cap, cl, ce⟩, ⟨j, ct⟩, cm⟩ := r
  refine ⟨nd, nt, ⟨c, base, cap, x _ _ cl (fun hm => (q2 _ hm).1 rfl), ?_⟩, ⟨j, x _ _ ct (fun hm => (q2 _ hm).2 rfl)⟩, hm⟩
  rcases ce with r | ⟨b, junk, h1, h2, h3, h4⟩
  · exact .inl r
  · exact .inr ⟨b, junk, h1, h2, x _ _ h3 (q3 b h1).2.2, h4⟩

/-! ### No log -/
theorem meets_gok_nil {h : PH} : Meets Try.prog 69 #[.pointer none] h fun v h' => v = .bool false ∧ h' = h := by
  apply P_ghost_Log_ok_of
  unfold P_ghost_Log_ok
  exact xSc_and true (fun hb => by cases hb) ⟨rfl, rfl⟩
theorem meets_gok_empty {h : PH} {l : Nat} {a b c : Value} (hl : h l = some (.cells #[a, .pointer none, b, c] 109 (0, 0))) : Meets Try.prog 69 #[.pointer (some ⟨l, 0, none⟩)] h fun v h' => v = .bool false ∧ h' = h := by
  apply P_ghost_Log_ok_of
  unfold P_ghost_Log_ok
  refine xSc_and false (fun _ J hJ => ?_) ⟨rfl, rfl⟩
  simp only [xNn_some, add_mk, cell_mk, upd_at, del_at, if_true, if_false, Option.bind_some, List.getElem?_toArray, List.getElem?_cons_succ, List.getElem?_cons_zero, oI_some, oS_some, oM_some, oB_some, oP_some, oT_some, xIdx_some, Nat.zero_add, Nat.add_zero, Nat.mul_one, hl]
  exact hJ
theorem meets_gok {h : PH} {G : GL} {g : Gs} (r : GRep h G g) : Meets Try.prog 69 #[gp G] h fun v h' => v = .bool true ∧ h' = h := by
  obtain ⟨c, base, cap, cl, ce⟩ := r.cl
  apply P_ghost_Log_ok_of
  unfold P_ghost_Log_ok
  refine xSc_and true (fun _ J hJ => ?_) ⟨rfl, rfl⟩
  simp only [xNn_some, add_mk, cell_mk, upd_at, del_at, if_true, if_false, Option.bind_some, List.getElem?_toArray, List.getElem?_cons_succ, List.getElem?_cons_zero, oI_some, oS_some, oM_some, oB_some, oP_some, oT_some, xIdx_some, Nat.zero_add, Nat.add_zero, Nat.mul_one, cl]
  exact hJ

/-- A log that nobody made. -/
def NoLog (h : PH) (p : Option Addr) : Prop := p = none ∨ ∃ l a b c, p = some ⟨l, 0, none⟩ ∧ h l = some (.cells #[a, .pointer none, b, c] 109 (0, 0))
theorem NoLog.le {h h' : PH} {p : Option Addr} (n : NoLog h p) (l : h.le h') : NoLog h' p := by
  rcases n with n | ⟨x, a, b, c, e, hx⟩
  · exact .inl n
  · exact .inr ⟨x, a, b, c, e, l _ _ hx⟩
theorem NoLog.ok {h : PH} {p : Option Addr} (n : NoLog h p) : Meets Try.prog 69 #[.pointer p] h fun v h' => v = .bool false ∧ h' = h := by
  rcases n with rfl | ⟨l, a, b, c, rfl, hl⟩
  · exact meets_gok_nil
  · exact meets_gok_empty hl
theorem NoLog.add {h : PH} {p : Option Addr} (n : NoLog h p) (e : En) : Meets Try.prog 40 #[.pointer p, enV e] h fun v h' => v = .int .i64 2 ∧ h' = h := by
  apply Meets.same
  apply P_ghost_Log_Add_of
  unfold P_ghost_Log_Add
  intro b hb
  have l : h.le _ := PH.le_upd (O := .cells #[.int .i64 e.kind, .int .i64 e.thread, .int .i64 e.number, .int .i64 e.op.kind, .int .i64 e.op.obj, .int .i64 e.op.arg, .int .i64 e.event.kind, .int .i64 e.event.thread, .int .i64 e.event.obj, .int .i64 e.event.arg, .int .i64 e.event.err, .int .i64 e.value, .int .i64 e.err] 90 (0, 0)) hb
  refine xBlk_split (fun _ => False) (fun _ x => x.elim) fun K hK => ?_
  refine (n.le l).ok.look ?_
  simp only [oB_some]
  exact ⟨fun _ => ⟨by trivial, l⟩, fun hx => (by cases hx)⟩
theorem NoLog.all {h : PH} {p : Option Addr} (n : NoLog h p) : Meets Try.prog 41 #[.pointer p] h fun v h' => v = .slice none 0 0 ∧ h' = h := by
  apply P_ghost_Log_All_of
  unfold P_ghost_Log_All
  refine n.ok.look ?_
  simp only [oB_some]
  exact ⟨fun _ => by simp, fun hx => (by cases hx)⟩
theorem NoLog.len {h : PH} {p : Option Addr} (n : NoLog h p) : Meets Try.prog 43 #[.pointer p] h fun v h' => v = .int .i64 0 ∧ h' = h := by
  apply P_ghost_Log_Len_of
  unfold P_ghost_Log_Len
  refine n.ok.look ?_
  simp only [oB_some]
  exact ⟨fun _ => by simp, fun hx => (by cases hx)⟩
theorem NoLog.model {h : PH} {p : Option Addr} (n : NoLog h p) : Meets Try.prog 44 #[.pointer p] h fun v h' => v = .pointer none ∧ h' = h := by
  apply P_ghost_Log_Model_of
  unfold P_ghost_Log_Model
  refine n.ok.look ?_
  simp only [oB_some]
  exact ⟨fun _ => by simp, fun hx => (by cases hx)⟩
theorem NoLog.opn {h : PH} {p : Option Addr} (n : NoLog h p) (t : Int) : Meets Try.prog 42 #[.pointer p, .int .i64 t] h fun v h' => v = .tuple #[.agg #[.int .i64 0, .int .i64 0, .int .i64 0], .bool false] ∧ h' = h := by
  apply Meets.same
  apply P_ghost_Log_Open_of
  unfold P_ghost_Log_Open
  intro b hb
  have l : h.le _ := PH.le_upd (O := .cells #[.int .i64 0, .int .i64 0, .int .i64 0] 86 (0, 0)) hb
  refine (n.le l).ok.look ?_
  simp only [oB_some]
  refine ⟨fun hx => (by cases hx), fun _ => ?_⟩
  refine ⟨fun hx => (by cases hx), fun _ => ?_⟩
  refine ⟨fun _ => ?_, fun hx => (by cases hx)⟩
  refine xSt_mk (PH.upd_same _ _ _) rfl (by decide) (by simp [oneCell]) (by simp) ?_
  rw [PH.upd_upd, setN3]
  simp only [xNn_some, add_mk, cell_mk, upd_at, del_at, if_true, if_false, Option.bind_some, List.getElem?_toArray, List.getElem?_cons_succ, List.getElem?_cons_zero, oI_some, oS_some, oM_some, oB_some, oP_some, oT_some, xIdx_some, Nat.zero_add, Nat.add_zero, Nat.mul_one]
  exact ⟨by trivial, l⟩

end Go.Gh
