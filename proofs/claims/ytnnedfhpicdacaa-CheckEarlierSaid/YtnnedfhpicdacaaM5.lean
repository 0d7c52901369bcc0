/-
  The model's functions that turn it.
-/
import Derived.Test.YtnnedfhpicdacaaM4
set_option linter.unusedSimpArgs false
set_option linter.unusedVariables false
namespace Go.Md
open Go Go.Sx Go.Proofs Go.Proofs.Ytnnedfhpicdacaa

/-- What a transition leaves. -/
def Upd (h : PH) (L : ML) (s : Ms) (o : Option Ms) (v : Value) (h' : PH) : Prop := v = .bool o.isSome ∧ MRep h' L (o.getD s) ∧ Ext L.all h h'
theorem Upd.no {h h' : PH} {L : ML} {s : Ms} {o : Option Ms} (e : o = none) (r : MRep h' L s) (x : Ext L.all h h') : Upd h L s o (.bool false) h' := by subst e; exact ⟨rfl, r, x⟩
theorem Upd.yes {h h' : PH} {L : ML} {s s' : Ms} {o : Option Ms} (e : o = some s') (r : MRep h' L s') (x : Ext L.all h h') : Upd h L s o (.bool true) h' := by subst e; exact ⟨rfl, r, x⟩
theorem Upd.look {h h' : PH} {L : ML} {s : Ms} {o : Option Ms} (b : Bool) (e : o = if b then some s else none) (r : MRep h' L s) (x : Ext L.all h h') : Upd h L s o (.bool b) h' := by
  cases b
  · exact .no e r x
  · exact .yes e r x

theorem MRep.setOb {h : PH} {L : ML} {s : Ms} (r : MRep h L s) {ms : List Mo} (hl : ms.length = s.mons.length) (j : List Value) : MRep (h.upd L.ob (.cells (moArr ms j) 117 (0, 0))) L { s with mons := ms } := by
  obtain ⟨n1, n2, n3, n4, n5, n6, n7, n8, n9, n10⟩ := r.nes
  obtain ⟨nd, nm, nf, cm, co, cf, cw, cl⟩ := r
  refine ⟨nd, by simpa [hl] using nm, nf, ?_, ⟨j, PH.upd_same _ _ _⟩, ?_, cw.of (PH.upd_ne _ _ n6.symm), cl.of (PH.upd_ne _ _ n7.symm)⟩
  · obtain ⟨c, c', cm⟩ := cm
    exact ⟨c, c', by rw [PH.upd_ne _ _ n1, cm]; simp only [hl]⟩
  · obtain ⟨k, cf⟩ := cf
    exact ⟨k, by rw [PH.upd_ne _ _ n5.symm, cf]⟩
theorem MRep.setFb {h : PH} {L : ML} {s : Ms} (r : MRep h L s) {ms : List Bool} (hl : ms.length = s.flags.length) (j : List Value) : MRep (h.upd L.fb (.cells (flArr ms j) 4 (0, 0))) L { s with flags := ms } := by
  obtain ⟨n1, n2, n3, n4, n5, n6, n7, n8, n9, n10⟩ := r.nes
  obtain ⟨nd, nm, nf, cm, co, cf, cw, cl⟩ := r
  refine ⟨nd, nm, by simpa [hl] using nf, ?_, ?_, ⟨j, PH.upd_same _ _ _⟩, cw.of (PH.upd_ne _ _ n8.symm), cl.of (PH.upd_ne _ _ n9.symm)⟩
  · obtain ⟨c, c', cm⟩ := cm
    exact ⟨c, c', by rw [PH.upd_ne _ _ n2, cm]; simp only [hl]⟩
  · obtain ⟨k, co⟩ := co
    exact ⟨k, by rw [PH.upd_ne _ _ n5, co]⟩
theorem MRep.setWb {h : PH} {L : ML} {s : Ms} (r : MRep h L s) {O : Obj} {l : Pl Int} (m : MapRep encI (h.upd L.wb O) L.wb l) : MRep (h.upd L.wb O) L { s with waits := l } := by
  obtain ⟨n1, n2, n3, n4, n5, n6, n7, n8, n9, n10⟩ := r.nes
  obtain ⟨nd, nm, nf, cm, co, cf, cw, cl⟩ := r
  refine ⟨nd, nm, nf, ?_, ?_, ?_, m, cl.of (PH.upd_ne _ _ n10.symm)⟩
  · rw [PH.upd_ne _ _ n3]; exact cm
  · rw [PH.upd_ne _ _ n6]; exact co
  · rw [PH.upd_ne _ _ n8]; exact cf
theorem MRep.setLb {h : PH} {L : ML} {s : Ms} (r : MRep h L s) {O : Obj} {l : Pl (Int × Int)} (m : MapRep encL (h.upd L.lb O) L.lb l) : MRep (h.upd L.lb O) L { s with left := l } := by
  obtain ⟨n1, n2, n3, n4, n5, n6, n7, n8, n9, n10⟩ := r.nes
  obtain ⟨nd, nm, nf, cm, co, cf, cw, cl⟩ := r
  refine ⟨nd, nm, nf, ?_, ?_, ?_, cw.of (PH.upd_ne _ _ n10), m⟩
  · rw [PH.upd_ne _ _ n4]; exact cm
  · rw [PH.upd_ne _ _ n7]; exact co
  · rw [PH.upd_ne _ _ n9]; exact cf

theorem ob_in (L : ML) : L.ob ∈ L.all := by simp [ML.all]
theorem fb_in (L : ML) : L.fb ∈ L.all := by simp [ML.all]
theorem wb_in (L : ML) : L.wb ∈ L.all := by simp [ML.all]
theorem lb_in (L : ML) : L.lb ∈ L.all := by simp [ML.all]

/-- A store of a part of a monitor. -/
theorem st_mon {h : PH} {L : ML} {s : Ms} (r : MRep h L s) {o : Int} (ho : OIn s o) (k : Nat) (vs : List Value) (m : Mo) {n : Nat} {K : PH → Prop} (hn : vs.length = n) (hz : n ≠ 0) (h1 : ∀ v ∈ vs, oneCell v = true)
    (hm : setL (moV (s.mon o)) k vs = moV m) (hk : k + vs.length ≤ 3) (kk : ∀ O, MRep (h.upd L.ob O) L (s.setMon o m) → K (h.upd L.ob O)) : xSt n h ⟨L.ob, o.toNat * 3 + k, none⟩ vs K := by
  obtain ⟨j, co⟩ := r.co
  refine xSt_mk co hn hz h1 ?_ (kk _ ?_)
  · rw [moArr_size]; have := ho.h1; omega
  · rw [moArr_set ho.h1 k vs m hm hk]
    exact r.setOb (by simp) j
theorem st_mon0 {h : PH} {L : ML} {s : Ms} (r : MRep h L s) {o : Int} (ho : OIn s o) (vs : List Value) (m : Mo) {n : Nat} {K : PH → Prop} (hn : vs.length = n) (hz : n ≠ 0) (h1 : ∀ v ∈ vs, oneCell v = true)
    (hm : setL (moV (s.mon o)) 0 vs = moV m) (hk : vs.length ≤ 3) (kk : ∀ O, MRep (h.upd L.ob O) L (s.setMon o m) → K (h.upd L.ob O)) : xSt n h ⟨L.ob, o.toNat * 3, none⟩ vs K := st_mon r ho 0 vs m hn hz h1 hm (by omega) kk
theorem st_flag {h : PH} {L : ML} {s : Ms} (r : MRep h L s) {t : Int} (ht : t.toNat < s.flags.length) (b : Bool) {K : PH → Prop} (kk : ∀ O, MRep (h.upd L.fb O) L (s.setFlag t b) → K (h.upd L.fb O)) : xSt 1 h ⟨L.fb, t.toNat, none⟩ [.bool b] K := by
  obtain ⟨j, cf⟩ := r.cf
  refine xSt_mk cf rfl (by decide) (by simp [oneCell]) ?_ (kk _ ?_)
  · rw [flArr_size]; omega
  · rw [flArr_set ht b]
    exact r.setFb (by simp) j
theorem mon_setMon {s : Ms} {o : Int} (ho : OIn s o) (m : Mo) : (s.setMon o m).mon o = m := by
  unfold Ms.mon Ms.setMon
  simp [List.getD_eq_getElem?_getD, ho.h1]
theorem setMon_setMon (s : Ms) (o : Int) (m m' : Mo) : (s.setMon o m).setMon o m' = s.setMon o m' := by simp [Ms.setMon]
theorem OIn.set {s : Ms} {o : Int} (ho : OIn s o) (m : Mo) : OIn (s.setMon o m) o := ⟨ho.h0, by simpa [Ms.setMon] using ho.h1⟩

/-- A monitor's read of what was just turned. -/
theorem mon_get {s : Ms} {o : Int} (ho : OIn s o) (m : Mo) : (s.setMon o m).mons.getD o.toNat ⟨-1, 0, 0⟩ = m := mon_setMon ho m

theorem meets_enter {h : PH} {L : ML} {s : Ms} (r : MRep h L s) (e : Ev) (ho : OIn s e.obj) : Meets Try.prog 77 #[mp L, evV e] h (Upd h L s (s.enter e)) := by
  apply P_model_Model_enter_of
  unfold P_model_Model_enter
  intro b hb
  obtain ⟨d1, d2, d3, d4, d5⟩ := r.off hb
  obtain ⟨c, c', cm⟩ := r.cm
  obtain ⟨j, co⟩ := r.co
  have r1 := r.new (O := .cells #[.int .i64 e.kind, .int .i64 e.thread, .int .i64 e.obj, .int .i64 e.arg, .int .i64 e.err] 33 (0, 0)) hb
  have x1 : Ext L.all h _ := (Ext.refl L.all h).upd_new (O := .cells #[.int .i64 e.kind, .int .i64 e.thread, .int .i64 e.obj, .int .i64 e.arg, .int .i64 e.err] 33 (0, 0)) hb
  refine xDraw_self ?_
  try simp only [xNn_some, add_mk, cell_mk, upd_at, del_at, if_true, if_false, Option.bind_some, List.getElem?_toArray, List.getElem?_cons_succ, List.getElem?_cons_zero, oI_some, oS_some, oM_some, oB_some, oP_some, oT_some, xIdx_some, Nat.zero_add, Nat.add_zero, Nat.mul_one, d1, cm, xBlk]
  refine ⟨ho.h0, ho.lt, ?_⟩
  refine ⟨fun hc => ?_, fun hc => ?_⟩
  · have hc := beq_iff_eq.1 hc
    refine xDraw_self ?_
    try simp only [xNn_some, add_mk, cell_mk, upd_at, del_at, if_true, if_false, Option.bind_some, List.getElem?_toArray, List.getElem?_cons_succ, List.getElem?_cons_zero, oI_some, oS_some, oM_some, oB_some, oP_some, oT_some, xIdx_some, Nat.zero_add, Nat.add_zero, Nat.mul_one]
    refine (meets_others r1 e ho).look ?_
    try simp only [xNn_some, add_mk, cell_mk, upd_at, del_at, if_true, if_false, Option.bind_some, List.getElem?_toArray, List.getElem?_cons_succ, List.getElem?_cons_zero, oI_some, oS_some, oM_some, oB_some, oP_some, oT_some, xIdx_some, Nat.zero_add, Nat.add_zero, Nat.mul_one, d1, d2, cm, co, moArr_1 ho.h1]
    refine ⟨PH.le_refl _, xSc_or ((s.mon e.obj).count == s.most) (fun _ J hJ => hJ) ⟨fun hx => ?_, fun hx => ?_⟩⟩
    · exact .no (by simp only [Ms.enter, hc, if_true, hx]) r1 x1
    · try simp only [xNn_some, add_mk, cell_mk, upd_at, del_at, if_true, if_false, Option.bind_some, List.getElem?_toArray, List.getElem?_cons_succ, List.getElem?_cons_zero, oI_some, oS_some, oM_some, oB_some, oP_some, oT_some, xIdx_some, Nat.zero_add, Nat.add_zero, Nat.mul_one, d1, d2, cm, co]
      refine st_mon0 r1 ho _ ⟨e.thread, (s.mon e.obj).count, (s.mon e.obj).hash⟩ rfl (by decide) (by simp [oneCell]) rfl (by simp) fun O r2 => ?_
      have ho2 := ho.set ⟨e.thread, (s.mon e.obj).count, (s.mon e.obj).hash⟩
      obtain ⟨j2, co2⟩ := r2.co
      simp only [cell_mk, co2, Option.bind_some, moArr_1 ho2.h1, oI_some, mon_get ho]
      refine st_mon r2 ho2 1 _ ⟨e.thread, IntKind.wrap .i64 ((s.mon e.obj).count + 1), (s.mon e.obj).hash⟩ rfl (by decide) (by simp [oneCell]) ?_ (by simp) fun O r3 => ?_
      · rw [mon_setMon ho]; rfl
      · rw [setMon_setMon] at r3
        exact .yes (by simp only [Ms.enter, hc, if_true, hx, if_false, Bool.false_eq_true]) r3 ((x1.upd_in (ob_in L)).upd_in (ob_in L))
  have hc0 : e.err ≠ 0 := by simpa using hc
  refine ⟨fun hc => ?_, fun hc => ?_⟩
  · have hc := beq_iff_eq.1 hc
    refine xDraw_self ?_
    try simp only [xNn_some, add_mk, cell_mk, upd_at, del_at, if_true, if_false, Option.bind_some, List.getElem?_toArray, List.getElem?_cons_succ, List.getElem?_cons_zero, oI_some, oS_some, oM_some, oB_some, oP_some, oT_some, xIdx_some, Nat.zero_add, Nat.add_zero, Nat.mul_one]
    refine (meets_owns r1 e ho).look ?_
    try simp only [xNn_some, add_mk, cell_mk, upd_at, del_at, if_true, if_false, Option.bind_some, List.getElem?_toArray, List.getElem?_cons_succ, List.getElem?_cons_zero, oI_some, oS_some, oM_some, oB_some, oP_some, oT_some, xIdx_some, Nat.zero_add, Nat.add_zero, Nat.mul_one, d1, d2, cm, co, moArr_1 ho.h1]
    exact ⟨PH.le_refl _, xSc_and ((s.mon e.obj).count == s.most) (fun _ J hJ => hJ) (.look _ (by simp only [Ms.enter, hc]; rfl) r1 x1)⟩
  have hc1 : e.err ≠ 10 := by simpa using hc
  refine ⟨fun hc => ?_, fun hc => ?_⟩
  · have hc := beq_iff_eq.1 hc
    refine xSc_and (s.others e) (fun _ J hJ => ?_) (.look _ (by simp only [Ms.enter, hc]; rfl) r1 x1)
    refine (meets_others r1 e ho).look ?_
    try simp only [xNn_some, add_mk, cell_mk, upd_at, del_at, if_true, if_false, Option.bind_some, List.getElem?_toArray, List.getElem?_cons_succ, List.getElem?_cons_zero, oI_some, oS_some, oM_some, oB_some, oP_some, oT_some, xIdx_some, Nat.zero_add, Nat.add_zero, Nat.mul_one]
    exact hJ
  have hc2 : e.err ≠ 11 := by simpa using hc
  refine ⟨fun hc => ?_, fun hc => ?_⟩
  · have hc := beq_iff_eq.1 hc
    refine xSc_and (s.others e) (fun _ J hJ => ?_) (.look _ (by simp only [Ms.enter, hc]; rfl) r1 x1)
    refine (meets_others r1 e ho).look ?_
    try simp only [xNn_some, add_mk, cell_mk, upd_at, del_at, if_true, if_false, Option.bind_some, List.getElem?_toArray, List.getElem?_cons_succ, List.getElem?_cons_zero, oI_some, oS_some, oM_some, oB_some, oP_some, oT_some, xIdx_some, Nat.zero_add, Nat.add_zero, Nat.mul_one]
    exact hJ
  have hc3 : e.err ≠ 14 := by simpa using hc
  exact .no (by simp only [Ms.enter, hc0, hc1, hc2, hc3, if_false]) r1 x1

theorem meets_exit {h : PH} {L : ML} {s : Ms} (r : MRep h L s) (e : Ev) (ho : OIn s e.obj) : Meets Try.prog 78 #[mp L, evV e] h (Upd h L s (s.exit e)) := by
  apply P_model_Model_exit_of
  unfold P_model_Model_exit
  intro b hb
  obtain ⟨d1, d2, d3, d4, d5⟩ := r.off hb
  obtain ⟨c, c', cm⟩ := r.cm
  obtain ⟨j, co⟩ := r.co
  have r1 := r.new (O := .cells #[.int .i64 e.kind, .int .i64 e.thread, .int .i64 e.obj, .int .i64 e.arg, .int .i64 e.err] 33 (0, 0)) hb
  have x1 : Ext L.all h _ := (Ext.refl L.all h).upd_new (O := .cells #[.int .i64 e.kind, .int .i64 e.thread, .int .i64 e.obj, .int .i64 e.arg, .int .i64 e.err] 33 (0, 0)) hb
  refine xDraw_self ?_
  try simp only [xNn_some, add_mk, cell_mk, upd_at, del_at, if_true, if_false, Option.bind_some, List.getElem?_toArray, List.getElem?_cons_succ, List.getElem?_cons_zero, oI_some, oS_some, oM_some, oB_some, oP_some, oT_some, xIdx_some, Nat.zero_add, Nat.add_zero, Nat.mul_one, d1, cm, xBlk]
  refine ⟨ho.h0, ho.lt, ?_⟩
  refine ⟨fun hc => ?_, fun hc => ?_⟩
  · have hc := beq_iff_eq.1 hc
    refine (meets_owns r1 e ho).look ?_
    try simp only [xNn_some, add_mk, cell_mk, upd_at, del_at, if_true, if_false, Option.bind_some, List.getElem?_toArray, List.getElem?_cons_succ, List.getElem?_cons_zero, oI_some, oS_some, oM_some, oB_some, oP_some, oT_some, xIdx_some, Nat.zero_add, Nat.add_zero, Nat.mul_one]
    refine .look _ ?_ r1 x1
    simp only [Ms.exit, hc, if_true]
    cases s.owns e <;> rfl
  have hc0 : e.err ≠ 9 := by simpa using hc
  refine xSc_or (!s.owns e) (fun _ J hJ => ?_) ⟨fun hx => ?_, fun hx => ?_⟩
  · try simp only [xNn_some, add_mk, cell_mk, upd_at, del_at, if_true, if_false, Option.bind_some, List.getElem?_toArray, List.getElem?_cons_succ, List.getElem?_cons_zero, oI_some, oS_some, oM_some, oB_some, oP_some, oT_some, xIdx_some, Nat.zero_add, Nat.add_zero, Nat.mul_one]
    refine (meets_owns r1 e ho).look ?_
    try simp only [xNn_some, add_mk, cell_mk, upd_at, del_at, if_true, if_false, Option.bind_some, List.getElem?_toArray, List.getElem?_cons_succ, List.getElem?_cons_zero, oI_some, oS_some, oM_some, oB_some, oP_some, oT_some, xIdx_some, Nat.zero_add, Nat.add_zero, Nat.mul_one]
    exact hJ
  · exact .no (by simp only [Ms.exit, hc0, if_false, hx, if_true]) r1 x1
  try simp only [xNn_some, add_mk, cell_mk, upd_at, del_at, if_true, if_false, Option.bind_some, List.getElem?_toArray, List.getElem?_cons_succ, List.getElem?_cons_zero, oI_some, oS_some, oM_some, oB_some, oP_some, oT_some, xIdx_some, Nat.zero_add, Nat.add_zero, Nat.mul_one, d2, co, moArr_1 ho.h1]
  have fin := mon_setMon ho ⟨(s.mon e.obj).owner, IntKind.wrap .i64 ((s.mon e.obj).count - 1), (s.mon e.obj).hash⟩
  refine st_mon r1 ho 1 _ ⟨(s.mon e.obj).owner, IntKind.wrap .i64 ((s.mon e.obj).count - 1), (s.mon e.obj).hash⟩ rfl (by decide) (by simp [oneCell]) rfl (by simp) fun O r2 => ?_
  have ho2 := ho.set ⟨(s.mon e.obj).owner, IntKind.wrap .i64 ((s.mon e.obj).count - 1), (s.mon e.obj).hash⟩
  obtain ⟨j2, co2⟩ := r2.co
  simp only [cell_mk, co2, Option.bind_some, moArr_1 ho2.h1, oI_some, mon_get ho]
  refine ⟨fun hz => ?_, fun hz => ?_⟩
  · have hz := beq_iff_eq.1 hz
    refine st_mon0 r2 ho2 _ ⟨-1, IntKind.wrap .i64 ((s.mon e.obj).count - 1), (s.mon e.obj).hash⟩ rfl (by decide) (by simp [oneCell]) ?_ (by simp) fun O r3 => ?_
    · rw [fin]; rfl
    · rw [setMon_setMon] at r3
      refine .yes ?_ r3 ((x1.upd_in (ob_in L)).upd_in (ob_in L))
      simp only [Ms.exit, hc0, if_false, hx, hz, if_true, Bool.false_eq_true]
  · have hz : IntKind.wrap .i64 ((s.mon e.obj).count - 1) ≠ 0 := by simpa using hz
    refine .yes ?_ r2 (x1.upd_in (ob_in L))
    simp only [Ms.exit, hc0, if_false, hx, hz, Bool.false_eq_true]

theorem meets_hash {h : PH} {L : ML} {s : Ms} (r : MRep h L s) (e : Ev) (ho : OIn s e.obj) : Meets Try.prog 83 #[mp L, evV e] h (Upd h L s (s.hash e)) := by
  apply P_model_Model_hash_of
  unfold P_model_Model_hash
  intro b hb
  obtain ⟨d1, d2, d3, d4, d5⟩ := r.off hb
  obtain ⟨c, c', cm⟩ := r.cm
  obtain ⟨j, co⟩ := r.co
  have r1 := r.new (O := .cells #[.int .i64 e.kind, .int .i64 e.thread, .int .i64 e.obj, .int .i64 e.arg, .int .i64 e.err] 33 (0, 0)) hb
  have x1 : Ext L.all h _ := (Ext.refl L.all h).upd_new (O := .cells #[.int .i64 e.kind, .int .i64 e.thread, .int .i64 e.obj, .int .i64 e.arg, .int .i64 e.err] 33 (0, 0)) hb
  refine xDraw_self ?_
  try simp only [xNn_some, add_mk, cell_mk, upd_at, del_at, if_true, if_false, Option.bind_some, List.getElem?_toArray, List.getElem?_cons_succ, List.getElem?_cons_zero, oI_some, oS_some, oM_some, oB_some, oP_some, oT_some, xIdx_some, Nat.zero_add, Nat.add_zero, Nat.mul_one, d1, cm, xBlk]
  refine ⟨ho.h0, ho.lt, ?_⟩
  refine ⟨fun hc => ?_, fun hc => ?_⟩
  · have hc := beq_iff_eq.1 hc
    simp only [upd_at, d2, if_false, co, Option.bind_some, moArr_0 ho.h1, oI_some]
    exact xSc_and ((s.mon e.obj).owner != -1) (fun _ J hJ => hJ) (.look _ (by simp only [Ms.hash, hc]; rfl) r1 x1)
  have hc0 : e.err ≠ 11 := by simpa using hc
  refine xDraw_self ?_
  try simp only [xNn_some, add_mk, cell_mk, upd_at, del_at, if_true, if_false, Option.bind_some, List.getElem?_toArray, List.getElem?_cons_succ, List.getElem?_cons_zero, oI_some, oS_some, oM_some, oB_some, oP_some, oT_some, xIdx_some, Nat.zero_add, Nat.add_zero, Nat.mul_one, d2, co, moArr_2 ho.h1]
  refine xSc_or (!(decide (1 ≤ e.arg) && decide (e.arg ≤ 2147483647))) (fun _ J hJ => ?_) ?_
  · refine (meets_in _ _ _).look ?_
    try simp only [xNn_some, add_mk, cell_mk, upd_at, del_at, if_true, if_false, Option.bind_some, List.getElem?_toArray, List.getElem?_cons_succ, List.getElem?_cons_zero, oI_some, oS_some, oM_some, oB_some, oP_some, oT_some, xIdx_some, Nat.zero_add, Nat.add_zero, Nat.mul_one]
    exact ⟨PH.le_refl _, hJ⟩
  refine xSc_or ((s.mon e.obj).hash != 0 && (s.mon e.obj).hash != e.arg) (fun _ J hJ => xSc_and ((s.mon e.obj).hash != e.arg) (fun _ J hJ => hJ) hJ) ?_
  refine ⟨fun hx => ?_, fun hx => ?_⟩
  · exact .no (by simp only [Ms.hash, hc0, if_false, hx, if_true]) r1 x1
  try simp only [xNn_some, add_mk, cell_mk, upd_at, del_at, if_true, if_false, Option.bind_some, List.getElem?_toArray, List.getElem?_cons_succ, List.getElem?_cons_zero, oI_some, oS_some, oM_some, oB_some, oP_some, oT_some, xIdx_some, Nat.zero_add, Nat.add_zero, Nat.mul_one, d2, co, moArr_1 ho.h1]
  refine st_mon r1 ho 2 _ ⟨(s.mon e.obj).owner, (s.mon e.obj).count, e.arg⟩ rfl (by decide) (by simp [oneCell]) rfl (by simp) fun O r2 => ?_
  exact .yes (by simp only [Ms.hash, hc0, if_false, hx, Bool.false_eq_true]) r2 (x1.upd_in (ob_in L))

theorem meets_holds {h : PH} {L : ML} {s : Ms} (r : MRep h L s) (e : Ev) (ho : OIn s e.obj) : Meets Try.prog 84 #[mp L, evV e] h (Upd h L s (s.holds e)) := by
  apply P_model_Model_holds_of
  unfold P_model_Model_holds
  intro b hb
  have r1 := r.new (O := .cells #[.int .i64 e.kind, .int .i64 e.thread, .int .i64 e.obj, .int .i64 e.arg, .int .i64 e.err] 33 (0, 0)) hb
  have x1 : Ext L.all h _ := (Ext.refl L.all h).upd_new (O := .cells #[.int .i64 e.kind, .int .i64 e.thread, .int .i64 e.obj, .int .i64 e.arg, .int .i64 e.err] 33 (0, 0)) hb
  try simp only [xNn_some, add_mk, cell_mk, upd_at, del_at, if_true, if_false, Option.bind_some, List.getElem?_toArray, List.getElem?_cons_succ, List.getElem?_cons_zero, oI_some, oS_some, oM_some, oB_some, oP_some, oT_some, xIdx_some, Nat.zero_add, Nat.add_zero, Nat.mul_one]
  refine xSc_and (e.arg == 1 && s.owns e || e.arg == 0 && !s.owns e) (fun _ J hJ => ?_) (.look _ rfl r1 x1)
  refine xSc_and (s.owns e) (fun _ J hJ => ?_) (xSc_or (e.arg == 0 && !s.owns e) (fun _ J hJ => ?_) hJ)
  · refine (meets_owns r1 e ho).look ?_
    try simp only [xNn_some, add_mk, cell_mk, upd_at, del_at, if_true, if_false, Option.bind_some, List.getElem?_toArray, List.getElem?_cons_succ, List.getElem?_cons_zero, oI_some, oS_some, oM_some, oB_some, oP_some, oT_some, xIdx_some, Nat.zero_add, Nat.add_zero, Nat.mul_one]
    exact hJ
  · try simp only [xNn_some, add_mk, cell_mk, upd_at, del_at, if_true, if_false, Option.bind_some, List.getElem?_toArray, List.getElem?_cons_succ, List.getElem?_cons_zero, oI_some, oS_some, oM_some, oB_some, oP_some, oT_some, xIdx_some, Nat.zero_add, Nat.add_zero, Nat.mul_one]
    refine xSc_and (!s.owns e) (fun _ J hJ => ?_) hJ
    refine (meets_owns r1 e ho).look ?_
    try simp only [xNn_some, add_mk, cell_mk, upd_at, del_at, if_true, if_false, Option.bind_some, List.getElem?_toArray, List.getElem?_cons_succ, List.getElem?_cons_zero, oI_some, oS_some, oM_some, oB_some, oP_some, oT_some, xIdx_some, Nat.zero_add, Nat.add_zero, Nat.mul_one]
    exact hJ

theorem meets_leave {h : PH} {L : ML} {s : Ms} (r : MRep h L s) (o t w : Int) : Meets Try.prog 80 #[mp L, .agg #[.int .i64 o, .int .i64 t], .int .i64 w] h (Upd h L s (s.leave o t w)) := by
  apply P_model_Model_leave_of
  unfold P_model_Model_leave
  intro b hb
  obtain ⟨d1, d2, d3, d4, d5⟩ := r.off hb
  obtain ⟨c, c', cm⟩ := r.cm
  have r1 := r.new (O := .cells #[.int .i64 o, .int .i64 t] 122 (0, 0)) hb
  have x1 : Ext L.all h _ := (Ext.refl L.all h).upd_new (O := .cells #[.int .i64 o, .int .i64 t] 122 (0, 0)) hb
  obtain ⟨n1, n2, n3, n4, n5, n6, n7, n8, n9, n10⟩ := r.nes
  refine xDraw_self ?_
  try simp only [xNn_some, add_mk, cell_mk, upd_at, del_at, if_true, if_false, Option.bind_some, List.getElem?_toArray, List.getElem?_cons_succ, List.getElem?_cons_zero, oI_some, oS_some, oM_some, oB_some, oP_some, oT_some, xIdx_some, Nat.zero_add, Nat.add_zero, Nat.mul_one, d1, cm]
  refine look_rep r1.cw o t ?_
  cases hf : s.waits.find o t with
  | none =>
    refine look_int ?_
    try simp only [xNn_some, add_mk, cell_mk, upd_at, del_at, if_true, if_false, Option.bind_some, List.getElem?_toArray, List.getElem?_cons_succ, List.getElem?_cons_zero, oI_some, oS_some, oM_some, oB_some, oP_some, oT_some, xIdx_some, Nat.zero_add, Nat.add_zero, Nat.mul_one, d1, cm]
    refine ⟨fun _ => .no (by simp only [Ms.leave, hf]) r1 x1, fun hx => (by cases hx)⟩
  | some n =>
    refine look_int ?_
    try simp only [xNn_some, add_mk, cell_mk, upd_at, del_at, if_true, if_false, Option.bind_some, List.getElem?_toArray, List.getElem?_cons_succ, List.getElem?_cons_zero, oI_some, oS_some, oM_some, oB_some, oP_some, oT_some, xIdx_some, Nat.zero_add, Nat.add_zero, Nat.mul_one, d1, cm]
    refine ⟨fun hx => (by cases hx), fun _ => ?_⟩
    refine xDraw_del L.wb ?_
    try simp only [xNn_some, add_mk, cell_mk, upd_at, del_at, if_true, if_false, Option.bind_some, List.getElem?_toArray, List.getElem?_cons_succ, List.getElem?_cons_zero, oI_some, oS_some, oM_some, oB_some, oP_some, oT_some, xIdx_some, Nat.zero_add, Nat.add_zero, Nat.mul_one, d1, d4.symm, n3, cm]
    refine del_rep r1.cw o t fun O m1 => ?_
    have r2 := r1.setWb m1
    refine ⟨PH.del_le_upd (PH.del_le _ _), ?_⟩
    refine xDraw_self ?_
    try simp only [xNn_some, add_mk, cell_mk, upd_at, del_at, if_true, if_false, Option.bind_some, List.getElem?_toArray, List.getElem?_cons_succ, List.getElem?_cons_zero, oI_some, oS_some, oM_some, oB_some, oP_some, oT_some, xIdx_some, Nat.zero_add, Nat.add_zero, Nat.mul_one, d1, d4.symm, n3, cm]
    refine put_rep r2.cl o t (n, w) rfl fun O m2 => ?_
    exact .yes (by simp only [Ms.leave, hf]) (r2.setLb m2) ((x1.upd_in (wb_in L)).upd_in (lb_in L))

theorem meets_begin {h : PH} {L : ML} {s : Ms} (r : MRep h L s) (e : Ev) (ho : OIn s e.obj) (ht0 : 0 ≤ e.thread) (ht : e.thread.toNat < s.flags.length) : Meets Try.prog 79 #[mp L, evV e] h (Upd h L s (s.begin e)) := by
  have hlt : e.thread < (s.flags.length : Int) := by omega
  apply P_model_Model_begin_of
  unfold P_model_Model_begin
  intro b hb
  obtain ⟨d1, d2, d3, d4, d5⟩ := r.off hb
  obtain ⟨n1, n2, n3, n4, n5, n6, n7, n8, n9, n10⟩ := r.nes
  obtain ⟨c, c', cm⟩ := r.cm
  obtain ⟨j, co⟩ := r.co
  obtain ⟨j', cf⟩ := r.cf
  have r1 := r.new (O := .cells #[.int .i64 e.kind, .int .i64 e.thread, .int .i64 e.obj, .int .i64 e.arg, .int .i64 e.err] 33 (0, 0)) hb
  have x1 : Ext L.all h _ := (Ext.refl L.all h).upd_new (O := .cells #[.int .i64 e.kind, .int .i64 e.thread, .int .i64 e.obj, .int .i64 e.arg, .int .i64 e.err] 33 (0, 0)) hb
  refine xDraw_self ?_
  simp only [xNn_some, add_mk, cell_mk, upd_at, del_at, if_true, if_false, Option.bind_some, List.getElem?_toArray, List.getElem?_cons_succ, List.getElem?_cons_zero, oI_some, oS_some, oM_some, oB_some, oP_some, oT_some, xIdx_some, Nat.zero_add, Nat.add_zero, Nat.mul_one, d1, cm, xBlk]
  refine ⟨ho.h0, ho.lt, ?_⟩
  refine xDraw_self ?_
  try simp only [xNn_some, add_mk, cell_mk, upd_at, del_at, if_true, if_false, Option.bind_some, List.getElem?_toArray, List.getElem?_cons_succ, List.getElem?_cons_zero, oI_some, oS_some, oM_some, oB_some, oP_some, oT_some, xIdx_some, Nat.zero_add, Nat.add_zero, Nat.mul_one, d1, d3, cm, cf, flArr_get ht]
  refine ⟨ht0, hlt, ?_⟩
  refine (meets_owns r1 e ho).look ?_
  try simp only [xNn_some, add_mk, cell_mk, upd_at, del_at, if_true, if_false, Option.bind_some, List.getElem?_toArray, List.getElem?_cons_succ, List.getElem?_cons_zero, oI_some, oS_some, oM_some, oB_some, oP_some, oT_some, xIdx_some, Nat.zero_add, Nat.add_zero, Nat.mul_one, d1, d3, cm, cf]
  refine ⟨PH.le_refl _, ?_⟩
  refine ⟨fun hc => ?_, fun hc => ?_⟩
  · have hc := beq_iff_eq.1 hc
    refine .look _ ?_ r1 x1
    simp only [Ms.begin, hc, if_true]
    cases s.owns e <;> rfl
  have hc0 : e.err ≠ 9 := by simpa using hc
  refine ⟨fun hc => ?_, fun hc => ?_⟩
  · have hc := beq_iff_eq.1 hc
    exact .look _ (by simp only [Ms.begin, hc]; rfl) r1 x1
  have hc1 : e.err ≠ 11 := by simpa using hc
  refine ⟨fun hc => ?_, fun hc => ?_⟩
  · have hc := beq_iff_eq.1 hc
    refine xSc_and (s.flag e.thread) (fun _ J hJ => hJ) ⟨fun hx => ?_, fun hx => ?_⟩
    · refine xDraw_self ?_
      try simp only [xNn_some, add_mk, cell_mk, upd_at, del_at, if_true, if_false, Option.bind_some, List.getElem?_toArray, List.getElem?_cons_succ, List.getElem?_cons_zero, oI_some, oS_some, oM_some, oB_some, oP_some, oT_some, xIdx_some, Nat.zero_add, Nat.add_zero, Nat.mul_one, d1, d3, cm, cf]
      refine ⟨ht0, hlt, ?_⟩
      refine st_flag r1 ht false fun O r2 => ?_
      refine xSc_and (s.flag e.thread) (fun _ J hJ => hJ) ?_
      rw [hx]
      exact .yes (by simp only [Ms.begin, hc]; simp only [hx]; rfl) r2 (x1.upd_in (fb_in L))
    · refine xSc_and (s.flag e.thread) (fun _ J hJ => hJ) ?_
      rw [hx]
      exact .no (by simp only [Ms.begin, hc]; simp only [hx]; rfl) r1 x1
  have hc2 : e.err ≠ 12 := by simpa using hc
  refine ⟨fun hc => ?_, fun hc => ?_⟩
  · have hc := beq_iff_eq.1 hc
    refine ⟨fun hx => ?_, fun hx => ?_⟩
    · have hx : s.owns e = false := by simpa using hx
      exact .no (by simp only [Ms.begin, hc]; simp only [hx]; rfl) r1 x1
    have hx : s.owns e = true := by simpa using hx
    refine xDraw_self ?_
    try simp only [xNn_some, add_mk, cell_mk, upd_at, del_at, if_true, if_false, Option.bind_some, List.getElem?_toArray, List.getElem?_cons_succ, List.getElem?_cons_zero, oI_some, oS_some, oM_some, oB_some, oP_some, oT_some, xIdx_some, Nat.zero_add, Nat.add_zero, Nat.mul_one, d1, d2, cm, co, moArr_1 ho.h1]
    refine put_rep r1.cw e.obj e.thread (s.mon e.obj).count rfl fun O m1 => ?_
    have r2 := r1.setWb m1
    have ho2 : OIn { s with waits := s.waits.put e.obj e.thread (s.mon e.obj).count } e.obj := ⟨ho.h0, ho.h1⟩
    try simp only [xNn_some, add_mk, cell_mk, upd_at, del_at, if_true, if_false, Option.bind_some, List.getElem?_toArray, List.getElem?_cons_succ, List.getElem?_cons_zero, oI_some, oS_some, oM_some, oB_some, oP_some, oT_some, xIdx_some, Nat.zero_add, Nat.add_zero, Nat.mul_one, d1, d2, n6, cm, co, moArr_2 ho.h1]
    refine st_mon0 r2 ho2 _ ⟨-1, 0, (s.mon e.obj).hash⟩ rfl (by decide) (by simp [oneCell]) rfl (by simp) fun O r3 => ?_
    exact .yes (by simp only [Ms.begin, hc]; simp only [hx]; rfl) r3 ((x1.upd_in (wb_in L)).upd_in (ob_in L))
  have hc3 : e.err ≠ 0 := by simpa using hc
  exact .no (by simp only [Ms.begin, hc0, hc1, hc2, hc3, if_false]) r1 x1

set_option maxHeartbeats 400000 in
theorem meets_end {h : PH} {L : ML} {s : Ms} (r : MRep h L s) (e : Ev) (ho : OIn s e.obj) (ht0 : 0 ≤ e.thread) (ht : e.thread.toNat < s.flags.length) : Meets Try.prog 81 #[mp L, evV e] h (Upd h L s (s.fin e)) := by
  have hlt : e.thread < (s.flags.length : Int) := by omega
  apply P_model_Model_end_of
  unfold P_model_Model_end
  intro b hb
  obtain ⟨d1, d2, d3, d4, d5⟩ := r.off hb
  obtain ⟨n1, n2, n3, n4, n5, n6, n7, n8, n9, n10⟩ := r.nes
  obtain ⟨c, c', cm⟩ := r.cm
  obtain ⟨j, co⟩ := r.co
  obtain ⟨j', cf⟩ := r.cf
  have r1 := r.new (O := .cells #[.int .i64 e.kind, .int .i64 e.thread, .int .i64 e.obj, .int .i64 e.arg, .int .i64 e.err] 33 (0, 0)) hb
  have x1 : Ext L.all h _ := (Ext.refl L.all h).upd_new (O := .cells #[.int .i64 e.kind, .int .i64 e.thread, .int .i64 e.obj, .int .i64 e.arg, .int .i64 e.err] 33 (0, 0)) hb
  refine xDraw_self ?_
  simp only [xNn_some, add_mk, cell_mk, upd_at, del_at, if_true, if_false, Option.bind_some, List.getElem?_toArray, List.getElem?_cons_succ, List.getElem?_cons_zero, oI_some, oS_some, oM_some, oB_some, oP_some, oT_some, xIdx_some, Nat.zero_add, Nat.add_zero, Nat.mul_one, d1, cm, xBlk]
  refine ⟨ho.h0, ho.lt, ?_⟩
  intro b6 hb6
  obtain ⟨b36, hb6'⟩ := upd_none hb6
  obtain ⟨u1, u2, u3, u4, u5⟩ := r.off hb6'
  refine xSt_mk (PH.upd_same _ _ _) rfl (by decide) (by simp [oneCell]) (by decide) ?_
  rw [PH.upd_upd, setN2]
  have r2 := r1.new (O := .cells #[.int .i64 e.obj, .int .i64 e.thread] 122 (0, 0)) hb6
  have x2 := x1.upd_new (O := .cells #[.int .i64 e.obj, .int .i64 e.thread] 122 (0, 0)) hb6'
  refine xDraw_self ?_
  try simp only [xNn_some, add_mk, cell_mk, upd_at, del_at, if_true, if_false, Option.bind_some, List.getElem?_toArray, List.getElem?_cons_succ, List.getElem?_cons_zero, oI_some, oS_some, oM_some, oB_some, oP_some, oT_some, xIdx_some, Nat.zero_add, Nat.add_zero, Nat.mul_one, d1, u1, cm]
  refine look_rep r2.cl e.obj e.thread ?_
  refine look_left ?_
  try simp only [xNn_some, add_mk, cell_mk, upd_at, del_at, if_true, if_false, Option.bind_some, List.getElem?_toArray, List.getElem?_cons_succ, List.getElem?_cons_zero, oI_some, oS_some, oM_some, oB_some, oP_some, oT_some, xIdx_some, Nat.zero_add, Nat.add_zero, Nat.mul_one]
  intro b7 hb7
  obtain ⟨b67, hb7'⟩ := upd_none hb7
  obtain ⟨b37, hb7'⟩ := upd_none hb7'
  obtain ⟨w1, w2, w3, w4, w5⟩ := r.off hb7'
  refine ⟨PH.le_upd hb7, ?_⟩
  refine xSt_mk (PH.upd_same _ _ _) rfl (by decide) (by simp [oneCell]) (by decide) ?_
  rw [PH.upd_upd, setN2]
  generalize hl : (s.left.find e.obj e.thread).getD (0, 0) = l
  have r3 := r2.new (O := .cells #[.int .i64 l.1, .int .i64 l.2] 125 (0, 0)) hb7
  have x3 := x2.upd_new (O := .cells #[.int .i64 l.1, .int .i64 l.2] 125 (0, 0)) hb7'
  refine ⟨PH.le_upd hb7, ?_⟩
  have eb : (((h.upd b (.cells #[.int .i64 e.kind, .int .i64 e.thread, .int .i64 e.obj, .int .i64 e.arg, .int .i64 e.err] 33 (0, 0))).upd b6 (.cells #[.int .i64 e.obj, .int .i64 e.thread] 122 (0, 0))).upd b7 (.cells #[.int .i64 l.1, .int .i64 l.2] 125 (0, 0))) b = some (.cells #[.int .i64 e.kind, .int .i64 e.thread, .int .i64 e.obj, .int .i64 e.arg, .int .i64 e.err] 33 (0, 0)) := by simp only [upd_at, b37, b36, if_true, if_false]
  have e6 : (((h.upd b (.cells #[.int .i64 e.kind, .int .i64 e.thread, .int .i64 e.obj, .int .i64 e.arg, .int .i64 e.err] 33 (0, 0))).upd b6 (.cells #[.int .i64 e.obj, .int .i64 e.thread] 122 (0, 0))).upd b7 (.cells #[.int .i64 l.1, .int .i64 l.2] 125 (0, 0))) b6 = some (.cells #[.int .i64 e.obj, .int .i64 e.thread] 122 (0, 0)) := by simp only [upd_at, b67, if_true, if_false]
  have e7 : (((h.upd b (.cells #[.int .i64 e.kind, .int .i64 e.thread, .int .i64 e.obj, .int .i64 e.arg, .int .i64 e.err] 33 (0, 0))).upd b6 (.cells #[.int .i64 e.obj, .int .i64 e.thread] 122 (0, 0))).upd b7 (.cells #[.int .i64 l.1, .int .i64 l.2] 125 (0, 0))) b7 = some (.cells #[.int .i64 l.1, .int .i64 l.2] 125 (0, 0)) := PH.upd_same _ _ _
  generalize (((h.upd b (.cells #[.int .i64 e.kind, .int .i64 e.thread, .int .i64 e.obj, .int .i64 e.arg, .int .i64 e.err] 33 (0, 0))).upd b6 (.cells #[.int .i64 e.obj, .int .i64 e.thread] 122 (0, 0))).upd b7 (.cells #[.int .i64 l.1, .int .i64 l.2] 125 (0, 0))) = h5 at eb e6 e7 r3 x3 ⊢
  clear r1 r2 x1 x2 hb hb6 hb7 cm co cf
  obtain ⟨c, c', cm⟩ := r3.cm
  obtain ⟨j, co⟩ := r3.co
  refine xSc_or ((s.mon e.obj).owner != -1) (fun _ J hJ => ?_) ?_
  · try simp only [xNn_some, add_mk, cell_mk, upd_at, del_at, if_true, if_false, Option.bind_some, List.getElem?_toArray, List.getElem?_cons_succ, List.getElem?_cons_zero, oI_some, oS_some, oM_some, oB_some, oP_some, oT_some, xIdx_some, Nat.zero_add, Nat.add_zero, Nat.mul_one, co, moArr_0 ho.h1]
    exact hJ
  refine xSc_or (l.2 != e.err) (fun _ J hJ => ?_) ?_
  · try simp only [xNn_some, add_mk, cell_mk, upd_at, del_at, if_true, if_false, Option.bind_some, List.getElem?_toArray, List.getElem?_cons_succ, List.getElem?_cons_zero, oI_some, oS_some, oM_some, oB_some, oP_some, oT_some, xIdx_some, Nat.zero_add, Nat.add_zero, Nat.mul_one, e7, eb]
    exact hJ
  have hopt : (Option.map encL (s.left.find e.obj e.thread)).isSome = (s.left.find e.obj e.thread).isSome := by simp
  rw [hopt]
  refine ⟨fun hx => ?_, fun hx => ?_⟩
  · refine .no ?_ r3 x3
    unfold Ms.fin
    cases hf : s.left.find e.obj e.thread with
    | none => rfl
    | some l' =>
      rw [hf] at hx hl
      simp only [Option.getD_some] at hl
      subst hl
      simp only [Option.isSome_some, Bool.not_true, Bool.false_or] at hx
      simp only [hx, if_true]
  cases hf : s.left.find e.obj e.thread with
  | none => rw [hf] at hx; simp at hx
  | some l' =>
    rw [hf] at hx hl
    simp only [Option.getD_some] at hl
    subst hl
    simp only [Option.isSome_some, Bool.not_true, Bool.false_or] at hx
    refine xDraw_del L.lb ?_
    try simp only [xNn_some, add_mk, cell_mk, upd_at, del_at, if_true, if_false, Option.bind_some, List.getElem?_toArray, List.getElem?_cons_succ, List.getElem?_cons_zero, oI_some, oS_some, oM_some, oB_some, oP_some, oT_some, xIdx_some, Nat.zero_add, Nat.add_zero, Nat.mul_one, n4, cm, e6, u5.symm]
    refine del_rep r3.cl e.obj e.thread fun O m1 => ?_
    have r4 := r3.setLb m1
    have x4 := x3.upd_in (lb_in L) (O := O)
    have eb4 : (h5.upd L.lb O) b = _ := (PH.upd_ne _ _ d5.symm).trans eb
    have e74 : (h5.upd L.lb O) b7 = _ := (PH.upd_ne _ _ w5.symm).trans e7
    refine ⟨PH.del_le_upd (PH.del_le _ _), ?_⟩
    clear r3 x3 eb e7 m1 cm co
    generalize h5.upd L.lb O = h6 at r4 x4 eb4 e74 ⊢
    refine xDraw_del L.ob ?_
    try simp only [xNn_some, add_mk, cell_mk, upd_at, del_at, if_true, if_false, Option.bind_some, List.getElem?_toArray, List.getElem?_cons_succ, List.getElem?_cons_zero, oI_some, oS_some, oM_some, oB_some, oP_some, oT_some, xIdx_some, Nat.zero_add, Nat.add_zero, Nat.mul_one, eb4, e74, d2.symm, w2.symm]
    have ho4 : OIn { s with left := s.left.del e.obj e.thread } e.obj := ⟨ho.h0, ho.h1⟩
    refine st_mon0 r4 ho4 _ ⟨e.thread, (s.mon e.obj).count, (s.mon e.obj).hash⟩ rfl (by decide) (by simp [oneCell]) rfl (by simp) fun O r5 => ?_
    refine ⟨PH.del_le_upd (PH.del_le _ _), ?_⟩
    have ho5 := ho4.set ⟨e.thread, (s.mon e.obj).count, (s.mon e.obj).hash⟩
    have e5 := mon_setMon ho4 ⟨e.thread, (s.mon e.obj).count, (s.mon e.obj).hash⟩
    refine st_mon r5 ho5 1 _ ⟨e.thread, l'.1, (s.mon e.obj).hash⟩ rfl (by decide) (by simp [oneCell]) (by rw [e5]; rfl) (by simp) fun O' r6 => ?_
    rw [setMon_setMon] at r6
    have x6 := (x4.upd_in (ob_in L) (O := O)).upd_in (ob_in L) (O := O')
    have eb6 : ((h6.upd L.ob O).upd L.ob O') b = _ := (PH.upd_ne _ _ d2.symm).trans ((PH.upd_ne _ _ d2.symm).trans eb4)
    generalize (h6.upd L.ob O).upd L.ob O' = h7 at r6 x6 eb6 ⊢
    clear r4 r5 eb4 e74 x4
    obtain ⟨c, c', cm⟩ := r6.cm
    try simp only [xNn_some, add_mk, cell_mk, upd_at, del_at, if_true, if_false, Option.bind_some, List.getElem?_toArray, List.getElem?_cons_succ, List.getElem?_cons_zero, oI_some, oS_some, oM_some, oB_some, oP_some, oT_some, xIdx_some, Nat.zero_add, Nat.add_zero, Nat.mul_one, eb6]
    refine ⟨fun hc => ?_, fun hc => ?_⟩
    · have hc := beq_iff_eq.1 hc
      refine xDraw_self ?_
      try simp only [xNn_some, add_mk, cell_mk, upd_at, del_at, if_true, if_false, Option.bind_some, List.getElem?_toArray, List.getElem?_cons_succ, List.getElem?_cons_zero, oI_some, oS_some, oM_some, oB_some, oP_some, oT_some, xIdx_some, Nat.zero_add, Nat.add_zero, Nat.mul_one, eb6, cm]
      refine ⟨ht0, hlt, ?_⟩
      refine st_flag r6 ht false fun O r7 => ?_
      refine .yes ?_ r7 (x6.upd_in (fb_in L))
      rw [hc] at hx
      simp only [Ms.fin, hf, hc, hx, if_true]; rfl
    · have hc : e.err ≠ 12 := by simpa using hc
      refine .yes ?_ r6 x6
      simp only [Ms.fin, hf, hx, hc, if_false]; rfl

end Go.Md
