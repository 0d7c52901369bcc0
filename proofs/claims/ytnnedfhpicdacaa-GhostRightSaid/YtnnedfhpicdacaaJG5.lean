/-
  The model's functions that turn it.
-/
import Derived.Test.YtnnedfhpicdacaaRows
import Derived.Shelf.SlMaps.Clone
import Derived.Test.YtnnedfhpicdacaaJG2
import Derived.Test.YtnnedfhpicdacaaJG3
import Derived.Test.YtnnedfhpicdacaaJG4

set_option linter.unusedSimpArgs false
set_option linter.unusedVariables false
namespace Go.Md
open Go Go.Sx Go.Proofs Go.Proofs.Ytnnedfhpicdacaa

/-- What a transition leaves. -/
def Upd (h : PH) (L : ML) (s : Ms) (o : Option Ms) (v : Value) (h' : PH) : Prop := v = .bool o.isSome ∧ MRep h' L (o.getD s) ∧ Ext L.all h h'
theorem Upd.no {h h' : PH} {L : ML} {s : Ms} {o : Option Ms} (e : o = none) (r : MRep h' L s) (x : Ext L.all h h') : Upd h L s o (.bool false) h' := by subst e; exact ⟨rfl, r, x⟩
theorem Upd.yes {h h' : PH} {L : ML} {s s' : Ms} {o : Option Ms} (e : o = some s') (r : MRep h' L s') (x : Ext L.all h h') : Upd h L s o (.bool true) h' := by subst e; exact ⟨rfl, r, x⟩
theorem Upd.look {h h' : PH} {L : ML} {s : Ms} {o : Option Ms} (b : Bool) (e : o = if b then some s else none) (r : MRep h' L s) (x : Ext L.all h h') : Upd h L s o (.bool b) h' := by
  cases b
  · exact .no e r x
  · exact .yes e r x

theorem MRep.setOb {h : PH} {L : ML} {s : Ms} (r : MRep h L s) {ms : List Mo} (hl : ms.length = s.mons.length) (j : List Value) : MRep (h.upd L.ob (.cells (moArr ms j) 117 (0, 0))) L { s with mons := ms } := by
  obtain ⟨n1, n2, n3, n4, n5, n6, n7, n8, n9, n10⟩ := r.nes
  obtain ⟨nd, nm, nf, cm, co, cf, cw, cl⟩ := r
  refine ⟨nd, by simpa [hl] using nm, nf, ?_, ⟨j, PH.upd_same _ _ _⟩, ?_, cw.of (PH.upd_ne _ _ n6.symm), cl.of (PH.upd_ne _ _ n7.symm)⟩
  · obtain ⟨c, c', cm⟩ := cm
    exact ⟨c, c', by rw [PH.upd_ne _ _ n1, cm]; simp only [hl]⟩
  · obtain ⟨k, cf⟩ := cf
    exact ⟨k, by rw [PH.upd_ne _ _ n5.symm, cf]⟩
theorem MRep.setFb {h : PH} {L : ML} {s : Ms} (r : MRep h L s) {ms : List Bool} (hl : ms.length = s.flags.length) (j : List Value) : MRep (h.upd L.fb (.cells (flArr ms j) 4 (0, 0))) L { s with flags := ms } := by
  obtain ⟨n1, n2, n3, n4, n5, n6, n7, n8, n9, n10⟩ := r.nes
  obtain ⟨nd, nm, nf, cm, co, cf, cw, cl⟩ := r
  refine ⟨nd, nm, by simpa [hl] using nf, ?_, ?_, ⟨j, PH.upd_same _ _ _⟩, cw.of (PH.upd_ne _ _ n8.symm), cl.of (PH.upd_ne _ _ n9.symm)⟩
  · obtain ⟨c, c', cm⟩ := cm
    exact ⟨c, c', by rw [PH.upd_ne _ _ n2, cm]; simp only [hl]⟩
  · obtain ⟨k, co⟩ := co
    exact ⟨k, by rw [PH.upd_ne _ _ n5, co]⟩
theorem MRep.setWb {h : PH} {L : ML} {s : Ms} (r : MRep h L s) {O : Obj} {l : Pl Int} (m : MapRep encI (h.upd L.wb O) L.wb l) : MRep (h.upd L.wb O) L { s with waits := l } := by
  obtain ⟨n1, n2, n3, n4, n5, n6, n7, n8, n9, n10⟩ := r.nes
  obtain ⟨nd, nm, nf, cm, co, cf, cw, cl⟩ := r
  refine ⟨nd, nm, nf, ?_, ?_, ?_, m, cl.of (PH.upd_ne _ _ n10.symm)⟩
  · rw [PH.upd_ne _ _ n3]; exact cm
  · rw [PH.upd_ne _ _ n6]; exact co
  · rw [PH.upd_ne _ _ n8]; exact cf
theorem MRep.setLb {h : PH} {L : ML} {s : Ms} (r : MRep h L s) {O : Obj} {l : Pl (Int × Int)} (m : MapRep encL (h.upd L.lb O) L.lb l) : MRep (h.upd L.lb O) L { s with left := l } := by
  obtain ⟨n1, n2, n3, n4, n5, n6, n7, n8, n9, n10⟩ := r.nes
  obtain ⟨nd, nm, nf, cm, co, cf, cw, cl⟩ := r
  refine ⟨nd, nm, nf, ?_, ?_, ?_, cw.of (PH.upd_ne _ _ n10), m⟩
  · rw [PH.upd_ne _ _ n4]; exact cm
  · rw [PH.upd_ne _ _ n7]; exact co
  · rw [PH.upd_ne _ _ n9]; exact cf

theorem ob_in (L : ML) : L.ob ∈ L.all := by simp [ML.all]
theorem fb_in (L : ML) : L.fb ∈ L.all := by simp [ML.all]
theorem wb_in (L : ML) : L.wb ∈ L.all := by simp [ML.all]
theorem lb_in (L : ML) : L.lb ∈ L.all := by simp [ML.all]

/-- A store of a part of a monitor. -/
theorem st_mon {h : PH} {L : ML} {s : Ms} (r : MRep h L s) {o : Int} (ho : OIn s o) (k : Nat) (vs : List Value) (m : Mo) {n : Nat} {K : PH → Prop} (hn : vs.length = n) (hz : n ≠ 0) (h1 : ∀ v ∈ vs, oneCell v = true)
    (hm : setL (moV (s.mon o)) k vs = moV m) (hk : k + vs.length ≤ 3) (kk : ∀ O, MRep (h.upd L.ob O) L (s.setMon o m) → K (h.upd L.ob O)) : xSt n h ⟨L.ob, o.toNat * 3 + k, none⟩ vs K := by
  obtain ⟨j, co⟩ := r.co
  refine xSt_mk co hn hz h1 ?_ (kk _ ?_)
  · rw [moArr_size]; have := ho.h1; omega
  · rw [moArr_set ho.h1 k vs m hm hk]
    exact r.setOb (by simp) j
theorem st_mon0 {h : PH} {L : ML} {s : Ms} (r : MRep h L s) {o : Int} (ho : OIn s o) (vs : List Value) (m : Mo) {n : Nat} {K : PH → Prop} (hn : vs.length = n) (hz : n ≠ 0) (h1 : ∀ v ∈ vs, oneCell v = true)
    (hm : setL (moV (s.mon o)) 0 vs = moV m) (hk : vs.length ≤ 3) (kk : ∀ O, MRep (h.upd L.ob O) L (s.setMon o m) → K (h.upd L.ob O)) : xSt n h ⟨L.ob, o.toNat * 3, none⟩ vs K := st_mon r ho 0 vs m hn hz h1 hm (by omega) kk
theorem st_flag {h : PH} {L : ML} {s : Ms} (r : MRep h L s) {t : Int} (ht : t.toNat < s.flags.length) (b : Bool) {K : PH → Prop} (kk : ∀ O, MRep (h.upd L.fb O) L (s.setFlag t b) → K (h.upd L.fb O)) : xSt 1 h ⟨L.fb, t.toNat, none⟩ [.bool b] K := by
  obtain ⟨j, cf⟩ := r.cf
  refine xSt_mk cf rfl (by decide) (by simp [oneCell]) ?_ (kk _ ?_)
  · rw [flArr_size]; omega
  · rw [flArr_set ht b]
    exact r.setFb (by simp) j
theorem mon_setMon {s : Ms} {o : Int} (ho : OIn s o) (m : Mo) : (s.setMon o m).mon o = m := by
  unfold Ms.mon Ms.setMon
  simp [List.getD_eq_getElem?_getD, ho.h1]
theorem setMon_setMon (s : Ms) (o : Int) (m m' : Mo) : (s.setMon o m).setMon o m' = s.setMon o m' := by simp [Ms.setMon]
theorem OIn.set {s : Ms} {o : Int} (ho : OIn s o) (m : Mo) : OIn (s.setMon o m) o := ⟨ho.h0, by simpa [Ms.setMon] using ho.h1⟩

/-- A monitor's read of what was just turned. -/
theorem mon_get {s : Ms} {o : Int} (ho : OIn s o) (m : Mo) : (s.setMon o m).mons.getD o.toNat ⟨-1, 0, 0⟩ = m := mon_setMon ho m

theorem meets_enter {h : PH} {L : ML} {s : Ms} (r : MRep h L s) (e : Ev) (ho : OIn s e.obj) : Meets Try.prog 77 #[mp L, evV e] h (Upd h L s (s.enter e)) := by
  apply P_model_Model_enter_of
  unfold P_model_Model_enter
  intro b hb
  obtain ⟨d1, d2, d3, d4, d5⟩ := r.off hb
  obtain ⟨c, c', cm⟩ := r.cm
  obtain ⟨j, co⟩ := r.co
  have r1 := r.new (O := .cells #[.int .i64 e.kind, .int .i64 e.thread, .int .i64 e.obj, .int .i64 e.arg, .int .i64 e.err] 33 (0, 0)) hb
  have x1 : Ext L.all h _ := (Ext.refl L.all h).upd_new (O := .cells #[.int .i64 e.kind, .int .i64 e.thread, .int .i64 e.obj, .int .i64 e.arg, .int .i64 e.err] 33 (0, 0)) hb
  refine xDraw_self ?_
  try simp only [xNn_some, add_mk, cell_mk, upd_at, del_at, if_true, if_false, Option.bind_some, List.getElem?_toArray, List.getElem?_cons_succ, List.getElem?_cons_zero, oI_some, oS_some, oM_some, oB_some, oP_some, oT_some, xIdx_some, Nat.zero_add, Nat.add_zero, Nat.mul_one, d1, cm, xBlk]
  refine ⟨ho.h0, ho.lt, ?_⟩
  refine ⟨fun hc => ?_, fun hc => ?_⟩
  · have hc := beq_iff_eq.1 hc
    refine xDraw_self ?_
    try simp only [xNn_some, add_mk, cell_mk, upd_at, del_at, if_true, if_false, Option.bind_some, List.getElem?_toArray, List.getElem?_cons_succ, List.getElem?_cons_zero, oI_some, oS_some, oM_some, oB_some, oP_some, oT_some, xIdx_some, Nat.zero_add, Nat.add_zero, Nat.mul_one]
    refine (meets_others r1 e ho).look ?_
    try simp only [xNn_some, add_mk, cell_mk, upd_at, del_at, if_true, if_false, Option.bind_some, List.getElem?_toArray, List.getElem?_cons_succ, List.getElem?_cons_zero, oI_some, oS_some, oM_some, oB_some, oP_some, oT_some, xIdx_some, Nat.zero_add, Nat.add_zero, Nat.mul_one, d1, d2, cm, co, moArr_1 ho.h1]
    refine ⟨PH.le_refl _, xSc_or ((s.mon e.obj).count == s.most) (fun _ J hJ => hJ) ⟨fun hx => ?_, fun hx => ?_⟩⟩
    · exact .no (by simp only [Ms.enter, hc, if_true, hx]) r1 x1
    · try simp only [xNn_some, add_mk, cell_mk, upd_at, del_at, if_true, if_false, Option.bind_some, List.getElem?_toArray, List.getElem?_cons_succ, List.getElem?_cons_zero, oI_some, oS_some, oM_some, oB_some, oP_some, oT_some, xIdx_some, Nat.zero_add, Nat.add_zero, Nat.mul_one, d1, d2, cm, co]
      refine st_mon0 r1 ho _ ⟨e.thread, (s.mon e.obj).count, (s.mon e.obj).hash⟩ rfl (by decide) (by simp [oneCell]) rfl (by simp) fun O r2 => ?_
      have ho2 := ho.set ⟨e.thread, (s.mon e.obj).count, (s.mon e.obj).hash⟩
      obtain ⟨j2, co2⟩ := r2.co
      simp only [cell_mk, co2, Option.bind_some, moArr_1 ho2.h1, oI_some, mon_get ho]
      refine st_mon r2 ho2 1 _ ⟨e.thread, IntKind.wrap .i64 ((s.mon e.obj).count + 1), (s.mon e.obj).hash⟩ rfl (by decide) (by simp [oneCell]) ?_ (by simp) fun O r3 => ?_
      · rw [mon_setMon ho]; rfl
      · rw [setMon_setMon] at r3
        exact .yes (by simp only [Ms.enter, hc, if_true, hx, if_false, Bool.false_eq_true]) r3 ((x1.upd_in (ob_in L)).upd_in (ob_in L))
  have hc0 : e.err ≠ 0 := by simpa using hc
  refine ⟨fun hc => ?_, fun hc => ?_⟩
  · have hc := beq_iff_eq.1 hc
    refine xDraw_self ?_
    try simp only [xNn_some, add_mk, cell_mk, upd_at, del_at, if_true, if_false, Option.bind_some, List.getElem?_toArray, List.getElem?_cons_succ, List.getElem?_cons_zero, oI_some, oS_some, oM_some, oB_some, oP_some, oT_some, xIdx_some, Nat.zero_add, Nat.add_zero, Nat.mul_one]
    refine (meets_owns r1 e ho).look ?_
    try simp only [xNn_some, add_mk, cell_mk, upd_at, del_at, if_true, if_false, Option.bind_some, List.getElem?_toArray, List.getElem?_cons_succ, List.getElem?_cons_zero, oI_some, oS_some, oM_some, oB_some, oP_some, oT_some, xIdx_some, Nat.zero_add, Nat.add_zero, Nat.mul_one, d1, d2, cm, co, moArr_1 ho.h1]
    exact ⟨PH.le_refl _, xSc_and ((s.mon e.obj).count == s.most) (fun _ J hJ => hJ) (.look _ (by simp only [Ms.enter, hc]; rfl) r1 x1)⟩
  have hc1 : e.err ≠ 10 := by simpa using hc
  refine ⟨fun hc => ?_, fun hc => ?_⟩
  · have hc := beq_iff_eq.1 hc
    refine xSc_and (s.others e) (fun _ J hJ => ?_) (.look _ (by simp only [Ms.enter, hc]; rfl) r1 x1)
    refine (meets_others r1 e ho).look ?_
    try simp only [xNn_some, add_mk, cell_mk, upd_at, del_at, if_true, if_false, Option.bind_some, List.getElem?_toArray, List.getElem?_cons_succ, List.getElem?_cons_zero, oI_some, oS_some, oM_some, oB_some, oP_some, oT_some, xIdx_some, Nat.zero_add, Nat.add_zero, Nat.mul_one]
    exact hJ
  have hc2 : e.err ≠ 11 := by simpa using hc
  refine ⟨fun hc => ?_, fun hc => ?_⟩
  · have hc := beq_iff_eq.1 hc
    refine xSc_and (s.others e) (fun _ J hJ => ?_) (.look _ (by simp only [Ms.enter, hc]; rfl) r1 x1)
    refine (meets_others r1 e ho).look ?_
    try simp only [xNn_some, add_mk, cell_mk, upd_at, del_at, if_true, if_false, Option.bind_some, List.getElem?_toArray, List.getElem?_cons_succ, List.getElem?_cons_zero, oI_some, oS_some, oM_some, oB_some, oP_some, oT_some, xIdx_some, Nat.zero_add, Nat.add_zero, Nat.mul_one]
    exact hJ
  have hc3 : e.err ≠ 14 := by simpa using hc
  exact .no (by simp only [Ms.enter, hc0, hc1, hc2, hc3, if_false]) r1 x1

theorem meets_exit {h : PH} {L : ML} {s : Ms} (r : MRep h L s) (e : Ev) (ho : OIn s e.obj) : Meets Try.prog 78 #[mp L, evV e] h (Upd h L s (s.exit e)) := by
  apply P_model_Model_exit_of
  unfold P_model_Model_exit
  intro b hb
  obtain ⟨d1, d2, d3, d4, d5⟩ := r.off hb
  obtain ⟨c, c', cm⟩ := r.cm
  obtain ⟨j, co⟩ := r.co
  have r1 := r.new (O := .cells #[.int .i64 e.kind, .int .i64 e.thread, .int .i64 e.obj, .int .i64 e.arg, .int .i64 e.err] 33 (0, 0)) hb
  have x1 : Ext L.all h _ := (Ext.refl L.all h).upd_new (O := .cells #[.int .i64 e.kind, .int .i64 e.thread, .int .i64 e.obj, .int .i64 e.arg, .int .i64 e.err] 33 (0, 0)) hb
  refine xDraw_self ?_
  try simp only [xNn_some, add_mk, cell_mk, upd_at, del_at, if_true, if_false, Option.bind_some, List.getElem?_toArray, List.getElem?_cons_succ, List.getElem?_cons_zero, oI_some, oS_some, oM_some, oB_some, oP_some, oT_some, xIdx_some, Nat.zero_add, Nat.add_zero, Nat.mul_one, d1, cm, xBlk]
  refine ⟨ho.h0, ho.lt, ?_⟩
  refine ⟨fun hc => ?_, fun hc => ?_⟩
  · have hc := beq_iff_eq.1 hc
    refine (meets_owns r1 e ho).look ?_
    try simp only [xNn_some, add_mk, cell_mk, upd_at, del_at, if_true, if_false, Option.bind_some, List.getElem?_toArray, List.getElem?_cons_succ, List.getElem?_cons_zero, oI_some, oS_some, oM_some, oB_some, oP_some, oT_some, xIdx_some, Nat.zero_add, Nat.add_zero, Nat.mul_one]
    refine .look _ ?_ r1 x1
    simp only [Ms.exit, hc, if_true]
    cases s.owns e <;> rfl
  have hc0 : e.err ≠ 9 := by simpa using hc
  refine xSc_or (!s.owns e) (fun _ J hJ => ?_) ⟨fun hx => ?_, fun hx => ?_⟩
  · try simp only [xNn_some, add_mk, cell_mk, upd_at, del_at, if_true, if_false, Option.bind_some, List.getElem?_toArray, List.getElem?_cons_succ, List.getElem?_cons_zero, oI_some, oS_some, oM_some, oB_some, oP_some, oT_some, xIdx_some, Nat.zero_add, Nat.add_zero, Nat.mul_one]
    refine (meets_owns r1 e ho).look ?_
    try simp only [xNn_some, add_mk, cell_mk, upd_at, del_at, if_true, if_false, Option.bind_some, List.getElem?_toArray, List.getElem?_cons_succ, List.getElem?_cons_zero, oI_some, oS_some, oM_some, oB_some, oP_some, oT_some, xIdx_some, Nat.zero_add, Nat.add_zero, Nat.mul_one]
    exact hJ
  · exact .no (by simp only [Ms.exit, hc0, if_false, hx, if_true]) r1 x1
  try simp only [xNn_some, add_mk, cell_mk, upd_at, del_at, if_true, if_false, Option.bind_some, List.getElem?_toArray, List.getElem?_cons_succ, List.getElem?_cons_zero, oI_some, oS_some, oM_some, oB_some, oP_some, oT_some, xIdx_some, Nat.zero_add, Nat.add_zero, Nat.mul_one, d2, co, moArr_1 ho.h1]
  have fin := mon_setMon ho ⟨(s.mon e.obj).owner, IntKind.wrap .i64 ((s.mon e.obj).count - 1), (s.mon e.obj).hash⟩
  refine st_mon r1 ho 1 _ ⟨(s.mon e.obj).owner, IntKind.wrap .i64 ((s.mon e.obj).count - 1), (s.mon e.obj).hash⟩ rfl (by decide) (by simp [oneCell]) rfl (by simp) fun O r2 => ?_
  have ho2 := ho.set ⟨(s.mon e.obj).owner, IntKind.wrap .i64 ((s.mon e.obj).count - 1), (s.mon e.obj).hash⟩
  obtain ⟨j2, co2⟩ := r2.co
  simp only [cell_mk, co2, Option.bind_some, moArr_1 ho2.h1, oI_some, mon_get ho]
  refine ⟨fun hz => ?_, fun hz => ?_⟩
  · have hz := beq_iff_eq.1 hz
    refine st_mon0 r2 ho2 _ ⟨-1, IntKind.wrap .i64 ((s.mon e.obj).count - 1), (s.mon e.obj).hash⟩ rfl (by decide) (by simp [oneCell]) ?_ (by simp) fun O r3 => ?_
    · rw [fin]; rfl
    · rw [setMon_setMon] at r3
      refine .yes ?_ r3 ((x1.upd_in (ob_in L)).upd_in (ob_in L))
      simp only [Ms.exit, hc0, if_false, hx, hz, if_true, Bool.false_eq_true]
  · have hz : IntKind.wrap .i64 ((s.mon e.obj).count - 1) ≠ 0 := by simpa using hz
    refine .yes ?_ r2 (x1.upd_in (ob_in L))
    simp only [Ms.exit, hc0, if_false, hx, hz, Bool.false_eq_true]

theorem meets_hash {h : PH} {L : ML} {s : Ms} (r : MRep h L s) (e : Ev) (ho : OIn s e.obj) : Meets Try.prog 83 #[mp L, evV e] h (Upd h L s (s.hash e)) := by
  apply P_model_Model_hash_of
  unfold P_model_Model_hash
  intro b hb
  obtain ⟨d1, d2, d3, d4, d5⟩ := r.off hb
  obtain ⟨c, c', cm⟩ := r.cm
  obtain ⟨j, co⟩ := r.co
  have r1 := r.new (O := .cells #[.int .i64 e.kind, .int .i64 e.thread, .int .i64 e.obj, .int .i64 e.arg, .int .i64 e.err] 33 (0, 0)) hb
  have x1 : Ext L.all h _ := (Ext.refl L.all h).upd_new (O := .cells #[.int .i64 e.kind, .int .i64 e.thread, .int .i64 e.obj, .int .i64 e.arg, .int .i64 e.err] 33 (0, 0)) hb
  refine xDraw_self ?_
  try simp only [xNn_some, add_mk, cell_mk, upd_at, del_at, if_true, if_false, Option.bind_some, List.getElem?_toArray, List.getElem?_cons_succ, List.getElem?_cons_zero, oI_some, oS_some, oM_some, oB_some, oP_some, oT_some, xIdx_some, Nat.zero_add, Nat.add_zero, Nat.mul_one, d1, cm, xBlk]
  refine ⟨ho.h0, ho.lt, ?_⟩
  refine ⟨fun hc => ?_, fun hc => ?_⟩
  · have hc := beq_iff_eq.1 hc
    simp only [upd_at, d2, if_false, co, Option.bind_some, moArr_0 ho.h1, oI_some]
    exact xSc_and ((s.mon e.obj).owner != -1) (fun _ J hJ => hJ) (.look _ (by simp only [Ms.hash, hc]; rfl) r1 x1)
  have hc0 : e.err ≠ 11 := by simpa using hc
  refine xDraw_self ?_
  try simp only [xNn_some, add_mk, cell_mk, upd_at, del_at, if_true, if_false, Option.bind_some, List.getElem?_toArray, List.getElem?_cons_succ, List.getElem?_cons_zero, oI_some, oS_some, oM_some, oB_some, oP_some, oT_some, xIdx_some, Nat.zero_add, Nat.add_zero, Nat.mul_one, d2, co, moArr_2 ho.h1]
  refine xSc_or (!(decide (1 ≤ e.arg) && decide (e.arg ≤ 2147483647))) (fun _ J hJ => ?_) ?_
  · refine (meets_in _ _ _).look ?_
    try simp only [xNn_some, add_mk, cell_mk, upd_at, del_at, if_true, if_false, Option.bind_some, List.getElem?_toArray, List.getElem?_cons_succ, List.getElem?_cons_zero, oI_some, oS_some, oM_some, oB_some, oP_some, oT_some, xIdx_some, Nat.zero_add, Nat.add_zero, Nat.mul_one]
    exact ⟨PH.le_refl _, hJ⟩
  refine xSc_or ((s.mon e.obj).hash != 0 && (s.mon e.obj).hash != e.arg) (fun _ J hJ => xSc_and ((s.mon e.obj).hash != e.arg) (fun _ J hJ => hJ) hJ) ?_
  refine ⟨fun hx => ?_, fun hx => ?_⟩
  · exact .no (by simp only [Ms.hash, hc0, if_false, hx, if_true]) r1 x1
  try simp only [xNn_some, add_mk, cell_mk, upd_at, del_at, if_true, if_false, Option.bind_some, List.getElem?_toArray, List.getElem?_cons_succ, List.getElem?_cons_zero, oI_some, oS_some, oM_some, oB_some, oP_some, oT_some, xIdx_some, Nat.zero_add, Nat.add_zero, Nat.mul_one, d2, co, moArr_1 ho.h1]
  refine st_mon r1 ho 2 _ ⟨(s.mon e.obj).owner, (s.mon e.obj).count, e.arg⟩ rfl (by decide) (by simp [oneCell]) rfl (by simp) fun O r2 => ?_
  exact .yes (by simp only [Ms.hash, hc0, if_false, hx, Bool.false_eq_true]) r2 (x1.upd_in (ob_in L))

theorem meets_holds {h : PH} {L : ML} {s : Ms} (r : MRep h L s) (e : Ev) (ho : OIn s e.obj) : Meets Try.prog 84 #[mp L, evV e] h (Upd h L s (s.holds e)) := by
  apply P_model_Model_holds_of
  unfold P_model_Model_holds
  intro b hb
  have r1 := r.new (O := .cells #[.int .i64 e.kind, .int .i64 e.thread, .int .i64 e.obj, .int .i64 e.arg, .int .i64 e.err] 33 (0, 0)) hb
  have x1 : Ext L.all h _ := (Ext.refl L.all h).upd_new (O := .cells #[.int .i64 e.kind, .int .i64 e.thread, .int .i64 e.obj, .int .i64 e.arg, .int .i64 e.err] 33 (0, 0)) hb
  try simp only [xNn_some, add_mk, cell_mk, upd_at, del_at, if_true, if_false, Option.bind_some, List.getElem?_toArray, List.getElem?_cons_succ, List.getElem?_cons_zero, oI_some, oS_some, oM_some, oB_some, oP_some, oT_some, xIdx_some, Nat.zero_add, Nat.add_zero, Nat.mul_one]
  refine xSc_and (e.arg == 1 && s.owns e || e.arg == 0 && !s.owns e) (fun _ J hJ => ?_) (.look _ rfl r1 x1)
  refine xSc_and (s.owns e) (fun _ J hJ => ?_) (xSc_or (e.arg == 0 && !s.owns e) (fun _ J hJ => ?_) hJ)
  · refine (meets_owns r1 e ho).look ?_
    try simp only [xNn_some, add_mk, cell_mk, upd_at, del_at, if_true, if_false, Option.bind_some, List.getElem?_toArray, List.getElem?_cons_succ, List.getElem?_cons_zero, oI_some, oS_some, oM_some, oB_some, oP_some, oT_some, xIdx_some, Nat.zero_add, Nat.add_zero, Nat.mul_one]
    exact hJ
  · try simp only [xNn_some, add_mk, cell_mk, upd_at, del_at, if_true, if_false, Option.bind_some, List.getElem?_toArray, List.getElem?_cons_succ, List.getElem?_cons_zero, oI_some, oS_some, oM_some, oB_some, oP_some, oT_some, xIdx_some, Nat.zero_add, Nat.add_zero, Nat.mul_one]
    refine xSc_and (!s.owns e) (fun _ J hJ => ?_) hJ
    refine (meets_owns r1 e ho).look ?_
    try simp only [xNn_some, add_mk, cell_mk, upd_at, del_at, if_true, if_false, Option.bind_some, List.getElem?_toArray, List.getElem?_cons_succ, List.getElem?_cons_zero, oI_some, oS_some, oM_some, oB_some, oP_some, oT_some, xIdx_some, Nat.zero_add, Nat.add_zero, Nat.mul_one]
    exact hJ

theorem meets_leave {h : PH} {L : ML} {s : Ms} (r : MRep h L s) (o t w : Int) : Meets Try.prog 80 #[mp L, .agg #[.int .i64 o, .int .i64 t], .int .i64 w] h (Upd h L s (s.leave o t w)) := by
  apply P_model_Model_leave_of
  unfold P_model_Model_leave
  intro b hb
  obtain ⟨d1, d2, d3, d4, d5⟩ := r.off hb
  obtain ⟨c, c', cm⟩ := r.cm
  have r1 := r.new (O := .cells #[.int .i64 o, .int .i64 t] 122 (0, 0)) hb
  have x1 : Ext L.all h _ := (Ext.refl L.all h).upd_new (O := .cells #[.int .i64 o, .int .i64 t] 122 (0, 0)) hb
  obtain ⟨n1, n2, n3, n4, n5, n6, n7, n8, n9, n10⟩ := r.nes
  refine xDraw_self ?_
  try simp only [xNn_some, add_mk, cell_mk, upd_at, del_at, if_true, if_false, Option.bind_some, List.getElem?_toArray, List.getElem?_cons_succ, List.getElem?_cons_zero, oI_some, oS_some, oM_some, oB_some, oP_some, oT_some, xIdx_some, Nat.zero_add, Nat.add_zero, Nat.mul_one, d1, cm]
  refine look_rep r1.cw o t ?_
  cases hf : s.waits.find o t with
  | none =>
    refine look_int ?_
    try simp only [xNn_some, add_mk, cell_mk, upd_at, del_at, if_true, if_false, Option.bind_some, List.getElem?_toArray, List.getElem?_cons_succ, List.getElem?_cons_zero, oI_some, oS_some, oM_some, oB_some, oP_some, oT_some, xIdx_some, Nat.zero_add, Nat.add_zero, Nat.mul_one, d1, cm]
    refine ⟨fun _ => .no (by simp only [Ms.leave, hf]) r1 x1, fun hx => (by cases hx)⟩
  | some n =>
    refine look_int ?_
    try simp only [xNn_some, add_mk, cell_mk, upd_at, del_at, if_true, if_false, Option.bind_some, List.getElem?_toArray, List.getElem?_cons_succ, List.getElem?_cons_zero, oI_some, oS_some, oM_some, oB_some, oP_some, oT_some, xIdx_some, Nat.zero_add, Nat.add_zero, Nat.mul_one, d1, cm]
    refine ⟨fun hx => (by cases hx), fun _ => ?_⟩
    refine xDraw_del L.wb ?_
    try simp only [xNn_some, add_mk, cell_mk, upd_at, del_at, if_true, if_false, Option.bind_some, List.getElem?_toArray, List.getElem?_cons_succ, List.getElem?_cons_zero, oI_some, oS_some, oM_some, oB_some, oP_some, oT_some, xIdx_some, Nat.zero_add, Nat.add_zero, Nat.mul_one, d1, d4.symm, n3, cm]
    refine del_rep r1.cw o t fun O m1 => ?_
    have r2 := r1.setWb m1
    refine ⟨PH.del_le_upd (PH.del_le _ _), ?_⟩
    refine xDraw_self ?_
    try simp only [xNn_some, add_mk, cell_mk, upd_at, del_at, if_true, if_false, Option.bind_some, List.getElem?_toArray, List.getElem?_cons_succ, List.getElem?_cons_zero, oI_some, oS_some, oM_some, oB_some, oP_some, oT_some, xIdx_some, Nat.zero_add, Nat.add_zero, Nat.mul_one, d1, d4.symm, n3, cm]
    refine put_rep r2.cl o t (n, w) rfl fun O m2 => ?_
    exact .yes (by simp only [Ms.leave, hf]) (r2.setLb m2) ((x1.upd_in (wb_in L)).upd_in (lb_in L))

theorem meets_begin {h : PH} {L : ML} {s : Ms} (r : MRep h L s) (e : Ev) (ho : OIn s e.obj) (ht0 : 0 ≤ e.thread) (ht : e.thread.toNat < s.flags.length) : Meets Try.prog 79 #[mp L, evV e] h (Upd h L s (s.begin e)) := by
  have hlt : e.thread < (s.flags.length : Int) := by omega
  apply P_model_Model_begin_of
  unfold P_model_Model_begin
  intro b hb
  obtain ⟨d1, d2, d3, d4, d5⟩ := r.off hb
  obtain ⟨n1, n2, n3, n4, n5, n6, n7, n8, n9, n10⟩ := r.nes
  obtain ⟨c, c', cm⟩ := r.cm
  obtain ⟨j, co⟩ := r.co
  obtain ⟨j', cf⟩ := r.cf
  have r1 := r.new (O := .cells #[.int .i64 e.kind, .int .i64 e.thread, .int .i64 e.obj, .int .i64 e.arg, .int .i64 e.err] 33 (0, 0)) hb
  have x1 : Ext L.all h _ := (Ext.refl L.all h).upd_new (O := .cells #[.int .i64 e.kind, .int .i64 e.thread, .int .i64 e.obj, .int .i64 e.arg, .int .i64 e.err] 33 (0, 0)) hb
  refine xDraw_self ?_
  simp only [xNn_some, add_mk, cell_mk, upd_at, del_at, if_true, if_false, Option.bind_some, List.getElem?_toArray, List.getElem?_cons_succ, List.getElem?_cons_zero, oI_some, oS_some, oM_some, oB_some, oP_some, oT_some, xIdx_some, Nat.zero_add, Nat.add_zero, Nat.mul_one, d1, cm, xBlk]
  refine ⟨ho.h0, ho.lt, ?_⟩
  refine xDraw_self ?_
  try simp only [xNn_some, add_mk, cell_mk, upd_at, del_at, if_true, if_false, Option.bind_some, List.getElem?_toArray, List.getElem?_cons_succ, List.getElem?_cons_zero, oI_some, oS_some, oM_some, oB_some, oP_some, oT_some, xIdx_some, Nat.zero_add, Nat.add_zero, Nat.mul_one, d1, d3, cm, cf, flArr_get ht]
  refine ⟨ht0, hlt, ?_⟩
  refine (meets_owns r1 e ho).look ?_
  try simp only [xNn_some, add_mk, cell_mk, upd_at, del_at, if_true, if_false, Option.bind_some, List.getElem?_toArray, List.getElem?_cons_succ, List.getElem?_cons_zero, oI_some, oS_some, oM_some, oB_some, oP_some, oT_some, xIdx_some, Nat.zero_add, Nat.add_zero, Nat.mul_one, d1, d3, cm, cf]
  refine ⟨PH.le_refl _, ?_⟩
  refine ⟨fun hc => ?_, fun hc => ?_⟩
  · have hc := beq_iff_eq.1 hc
    refine .look _ ?_ r1 x1
    simp only [Ms.begin, hc, if_true]
    cases s.owns e <;> rfl
  have hc0 : e.err ≠ 9 := by simpa using hc
  refine ⟨fun hc => ?_, fun hc => ?_⟩
  · have hc := beq_iff_eq.1 hc
    exact .look _ (by simp only [Ms.begin, hc]; rfl) r1 x1
  have hc1 : e.err ≠ 11 := by simpa using hc
  refine ⟨fun hc => ?_, fun hc => ?_⟩
  · have hc := beq_iff_eq.1 hc
    refine xSc_and (s.flag e.thread) (fun _ J hJ => hJ) ⟨fun hx => ?_, fun hx => ?_⟩
    · refine xDraw_self ?_
      try simp only [xNn_some, add_mk, cell_mk, upd_at, del_at, if_true, if_false, Option.bind_some, List.getElem?_toArray, List.getElem?_cons_succ, List.getElem?_cons_zero, oI_some, oS_some, oM_some, oB_some, oP_some, oT_some, xIdx_some, Nat.zero_add, Nat.add_zero, Nat.mul_one, d1, d3, cm, cf]
      refine ⟨ht0, hlt, ?_⟩
      refine st_flag r1 ht false fun O r2 => ?_
      refine xSc_and (s.flag e.thread) (fun _ J hJ => hJ) ?_
      rw [hx]
      exact .yes (by simp only [Ms.begin, hc]; simp only [hx]; rfl) r2 (x1.upd_in (fb_in L))
    · refine xSc_and (s.flag e.thread) (fun _ J hJ => hJ) ?_
      rw [hx]
      exact .no (by simp only [Ms.begin, hc]; simp only [hx]; rfl) r1 x1
  have hc2 : e.err ≠ 12 := by simpa using hc
  refine ⟨fun hc => ?_, fun hc => ?_⟩
  · have hc := beq_iff_eq.1 hc
    refine ⟨fun hx => ?_, fun hx => ?_⟩
    · have hx : s.owns e = false := by simpa using hx
      exact .no (by simp only [Ms.begin, hc]; simp only [hx]; rfl) r1 x1
    have hx : s.owns e = true := by simpa using hx
    refine xDraw_self ?_
    try simp only [xNn_some, add_mk, cell_mk, upd_at, del_at, if_true, if_false, Option.bind_some, List.getElem?_toArray, List.getElem?_cons_succ, List.getElem?_cons_zero, oI_some, oS_some, oM_some, oB_some, oP_some, oT_some, xIdx_some, Nat.zero_add, Nat.add_zero, Nat.mul_one, d1, d2, cm, co, moArr_1 ho.h1]
    refine put_rep r1.cw e.obj e.thread (s.mon e.obj).count rfl fun O m1 => ?_
    have r2 := r1.setWb m1
    have ho2 : OIn { s with waits := s.waits.put e.obj e.thread (s.mon e.obj).count } e.obj := ⟨ho.h0, ho.h1⟩
    try simp only [xNn_some, add_mk, cell_mk, upd_at, del_at, if_true, if_false, Option.bind_some, List.getElem?_toArray, List.getElem?_cons_succ, List.getElem?_cons_zero, oI_some, oS_some, oM_some, oB_some, oP_some, oT_some, xIdx_some, Nat.zero_add, Nat.add_zero, Nat.mul_one, d1, d2, n6, cm, co, moArr_2 ho.h1]
    refine st_mon0 r2 ho2 _ ⟨-1, 0, (s.mon e.obj).hash⟩ rfl (by decide) (by simp [oneCell]) rfl (by simp) fun O r3 => ?_
    exact .yes (by simp only [Ms.begin, hc]; simp only [hx]; rfl) r3 ((x1.upd_in (wb_in L)).upd_in (ob_in L))
  have hc3 : e.err ≠ 0 := by simpa using hc
  exact .no (by simp only [Ms.begin, hc0, hc1, hc2, hc3, if_false]) r1 x1

set_option maxHeartbeats 400000 in
theorem meets_end {h : PH} {L : ML} {s : Ms} (r : MRep h L s) (e : Ev) (ho : OIn s e.obj) (ht0 : 0 ≤ e.thread) (ht : e.thread.toNat < s.flags.length) : Meets Try.prog 81 #[mp L, evV e] h (Upd h L s (s.fin e)) := by
  have hlt : e.thread < (s.flags.length : Int) := by omega
  apply P_model_Model_end_of
  unfold P_model_Model_end
  intro b hb
  obtain ⟨d1, d2, d3, d4, d5⟩ := r.off hb
  obtain ⟨n1, n2, n3, n4, n5, n6, n7, n8, n9, n10⟩ := r.nes
  obtain ⟨c, c', cm⟩ := r.cm
  obtain ⟨j, co⟩ := r.co
  obtain ⟨j', cf⟩ := r.cf
  have r1 := r.new (O := .cells #[.int .i64 e.kind, .int .i64 e.thread, .int .i64 e.obj, .int .i64 e.arg, .int .i64 e.err] 33 (0, 0)) hb
  have x1 : Ext L.all h _ := (Ext.refl L.all h).upd_new (O := .cells #[.int .i64 e.kind, .int .i64 e.thread, .int .i64 e.obj, .int .i64 e.arg, .int .i64 e.err] 33 (0, 0)) hb
  refine xDraw_self ?_
  simp only [xNn_some, add_mk, cell_mk, upd_at, del_at, if_true, if_false, Option.bind_some, List.getElem?_toArray, List.getElem?_cons_succ, List.getElem?_cons_zero, oI_some, oS_some, oM_some, oB_some, oP_some, oT_some, xIdx_some, Nat.zero_add, Nat.add_zero, Nat.mul_one, d1, cm, xBlk]
  refine ⟨ho.h0, ho.lt, ?_⟩
  intro b6 hb6
  obtain ⟨b36, hb6'⟩ := upd_none hb6
  obtain ⟨u1, u2, u3, u4, u5⟩ := r.off hb6'
  refine xSt_mk (PH.upd_same _ _ _) rfl (by decide) (by simp [oneCell]) (by decide) ?_
  rw [PH.upd_upd, setN2]
  have r2 := r1.new (O := .cells #[.int .i64 e.obj, .int .i64 e.thread] 122 (0, 0)) hb6
  have x2 := x1.upd_new (O := .cells #[.int .i64 e.obj, .int .i64 e.thread] 122 (0, 0)) hb6'
  refine xDraw_self ?_
  try simp only [xNn_some, add_mk, cell_mk, upd_at, del_at, if_true, if_false, Option.bind_some, List.getElem?_toArray, List.getElem?_cons_succ, List.getElem?_cons_zero, oI_some, oS_some, oM_some, oB_some, oP_some, oT_some, xIdx_some, Nat.zero_add, Nat.add_zero, Nat.mul_one, d1, u1, cm]
  refine look_rep r2.cl e.obj e.thread ?_
  refine look_left ?_
  try simp only [xNn_some, add_mk, cell_mk, upd_at, del_at, if_true, if_false, Option.bind_some, List.getElem?_toArray, List.getElem?_cons_succ, List.getElem?_cons_zero, oI_some, oS_some, oM_some, oB_some, oP_some, oT_some, xIdx_some, Nat.zero_add, Nat.add_zero, Nat.mul_one]
  intro b7 hb7
  obtain ⟨b67, hb7'⟩ := upd_none hb7
  obtain ⟨b37, hb7'⟩ := upd_none hb7'
  obtain ⟨w1, w2, w3, w4, w5⟩ := r.off hb7'
  refine ⟨PH.le_upd hb7, ?_⟩
  refine xSt_mk (PH.upd_same _ _ _) rfl (by decide) (by simp [oneCell]) (by decide) ?_
  rw [PH.upd_upd, setN2]
  generalize hl : (s.left.find e.obj e.thread).getD (0, 0) = l
  have r3 := r2.new (O := .cells #[.int .i64 l.1, .int .i64 l.2] 125 (0, 0)) hb7
  have x3 := x2.upd_new (O := .cells #[.int .i64 l.1, .int .i64 l.2] 125 (0, 0)) hb7'
  refine ⟨PH.le_upd hb7, ?_⟩
  have eb : (((h.upd b (.cells #[.int .i64 e.kind, .int .i64 e.thread, .int .i64 e.obj, .int .i64 e.arg, .int .i64 e.err] 33 (0, 0))).upd b6 (.cells #[.int .i64 e.obj, .int .i64 e.thread] 122 (0, 0))).upd b7 (.cells #[.int .i64 l.1, .int .i64 l.2] 125 (0, 0))) b = some (.cells #[.int .i64 e.kind, .int .i64 e.thread, .int .i64 e.obj, .int .i64 e.arg, .int .i64 e.err] 33 (0, 0)) := by simp only [upd_at, b37, b36, if_true, if_false]
  have e6 : (((h.upd b (.cells #[.int .i64 e.kind, .int .i64 e.thread, .int .i64 e.obj, .int .i64 e.arg, .int .i64 e.err] 33 (0, 0))).upd b6 (.cells #[.int .i64 e.obj, .int .i64 e.thread] 122 (0, 0))).upd b7 (.cells #[.int .i64 l.1, .int .i64 l.2] 125 (0, 0))) b6 = some (.cells #[.int .i64 e.obj, .int .i64 e.thread] 122 (0, 0)) := by simp only [upd_at, b67, if_true, if_false]
  have e7 : (((h.upd b (.cells #[.int .i64 e.kind, .int .i64 e.thread, .int .i64 e.obj, .int .i64 e.arg, .int .i64 e.err] 33 (0, 0))).upd b6 (.cells #[.int .i64 e.obj, .int .i64 e.thread] 122 (0, 0))).upd b7 (.cells #[.int .i64 l.1, .int .i64 l.2] 125 (0, 0))) b7 = some (.cells #[.int .i64 l.1, .int .i64 l.2] 125 (0, 0)) := PH.upd_same _ _ _
  generalize (((h.upd b (.cells #[.int .i64 e.kind, .int .i64 e.thread, .int .i64 e.obj, .int .i64 e.arg, .int .i64 e.err] 33 (0, 0))).upd b6 (.cells #[.int .i64 e.obj, .int .i64 e.thread] 122 (0, 0))).upd b7 (.cells #[.int .i64 l.1, .int .i64 l.2] 125 (0, 0))) = h5 at eb e6 e7 r3 x3 ⊢
  clear r1 r2 x1 x2 hb hb6 hb7 cm co cf
  obtain ⟨c, c', cm⟩ := r3.cm
  obtain ⟨j, co⟩ := r3.co
  refine xSc_or ((s.mon e.obj).owner != -1) (fun _ J hJ => ?_) ?_
  · try simp only [xNn_some, add_mk, cell_mk, upd_at, del_at, if_true, if_false, Option.bind_some, List.getElem?_toArray, List.getElem?_cons_succ, List.getElem?_cons_zero, oI_some, oS_some, oM_some, oB_some, oP_some, oT_some, xIdx_some, Nat.zero_add, Nat.add_zero, Nat.mul_one, co, moArr_0 ho.h1]
    exact hJ
  refine xSc_or (l.2 != e.err) (fun _ J hJ => ?_) ?_
  · try simp only [xNn_some, add_mk, cell_mk, upd_at, del_at, if_true, if_false, Option.bind_some, List.getElem?_toArray, List.getElem?_cons_succ, List.getElem?_cons_zero, oI_some, oS_some, oM_some, oB_some, oP_some, oT_some, xIdx_some, Nat.zero_add, Nat.add_zero, Nat.mul_one, e7, eb]
    exact hJ
  have hopt : (Option.map encL (s.left.find e.obj e.thread)).isSome = (s.left.find e.obj e.thread).isSome := by simp
  rw [hopt]
  refine ⟨fun hx => ?_, fun hx => ?_⟩
  · refine .no ?_ r3 x3
    unfold Ms.fin
    cases hf : s.left.find e.obj e.thread with
    | none => rfl
    | some l' =>
      rw [hf] at hx hl
      simp only [Option.getD_some] at hl
      subst hl
      simp only [Option.isSome_some, Bool.not_true, Bool.false_or] at hx
      simp only [hx, if_true]
  cases hf : s.left.find e.obj e.thread with
  | none => rw [hf] at hx; simp at hx
  | some l' =>
    rw [hf] at hx hl
    simp only [Option.getD_some] at hl
    subst hl
    simp only [Option.isSome_some, Bool.not_true, Bool.false_or] at hx
    refine xDraw_del L.lb ?_
    try simp only [xNn_some, add_mk, cell_mk, upd_at, del_at, if_true, if_false, Option.bind_some, List.getElem?_toArray, List.getElem?_cons_succ, List.getElem?_cons_zero, oI_some, oS_some, oM_some, oB_some, oP_some, oT_some, xIdx_some, Nat.zero_add, Nat.add_zero, Nat.mul_one, n4, cm, e6, u5.symm]
    refine del_rep r3.cl e.obj e.thread fun O m1 => ?_
    have r4 := r3.setLb m1
    have x4 := x3.upd_in (lb_in L) (O := O)
    have eb4 : (h5.upd L.lb O) b = _ := (PH.upd_ne _ _ d5.symm).trans eb
    have e74 : (h5.upd L.lb O) b7 = _ := (PH.upd_ne _ _ w5.symm).trans e7
    refine ⟨PH.del_le_upd (PH.del_le _ _), ?_⟩
    clear r3 x3 eb e7 m1 cm co
    generalize h5.upd L.lb O = h6 at r4 x4 eb4 e74 ⊢
    refine xDraw_del L.ob ?_
    try simp only [xNn_some, add_mk, cell_mk, upd_at, del_at, if_true, if_false, Option.bind_some, List.getElem?_toArray, List.getElem?_cons_succ, List.getElem?_cons_zero, oI_some, oS_some, oM_some, oB_some, oP_some, oT_some, xIdx_some, Nat.zero_add, Nat.add_zero, Nat.mul_one, eb4, e74, d2.symm, w2.symm]
    have ho4 : OIn { s with left := s.left.del e.obj e.thread } e.obj := ⟨ho.h0, ho.h1⟩
    refine st_mon0 r4 ho4 _ ⟨e.thread, (s.mon e.obj).count, (s.mon e.obj).hash⟩ rfl (by decide) (by simp [oneCell]) rfl (by simp) fun O r5 => ?_
    refine ⟨PH.del_le_upd (PH.del_le _ _), ?_⟩
    have ho5 := ho4.set ⟨e.thread, (s.mon e.obj).count, (s.mon e.obj).hash⟩
    have e5 := mon_setMon ho4 ⟨e.thread, (s.mon e.obj).count, (s.mon e.obj).hash⟩
    refine st_mon r5 ho5 1 _ ⟨e.thread, l'.1, (s.mon e.obj).hash⟩ rfl (by decide) (by simp [oneCell]) (by rw [e5]; rfl) (by simp) fun O' r6 => ?_
    rw [setMon_setMon] at r6
    have x6 := (x4.upd_in (ob_in L) (O := O)).upd_in (ob_in L) (O := O')
    have eb6 : ((h6.upd L.ob O).upd L.ob O') b = _ := (PH.upd_ne _ _ d2.symm).trans ((PH.upd_ne _ _ d2.symm).trans eb4)
    generalize (h6.upd L.ob O).upd L.ob O' = h7 at r6 x6 eb6 ⊢
    clear r4 r5 eb4 e74 x4
    obtain ⟨c, c', cm⟩ := r6.cm
    try simp only [xNn_some, add_mk, cell_mk, upd_at, del_at, if_true, if_false, Option.bind_some, List.getElem?_toArray, List.getElem?_cons_succ, List.getElem?_cons_zero, oI_some, oS_some, oM_some, oB_some, oP_some, oT_some, xIdx_some, Nat.zero_add, Nat.add_zero, Nat.mul_one, eb6]
    refine ⟨fun hc => ?_, fun hc => ?_⟩
    · have hc := beq_iff_eq.1 hc
      refine xDraw_self ?_
      try simp only [xNn_some, add_mk, cell_mk, upd_at, del_at, if_true, if_false, Option.bind_some, List.getElem?_toArray, List.getElem?_cons_succ, List.getElem?_cons_zero, oI_some, oS_some, oM_some, oB_some, oP_some, oT_some, xIdx_some, Nat.zero_add, Nat.add_zero, Nat.mul_one, eb6, cm]
      refine ⟨ht0, hlt, ?_⟩
      refine st_flag r6 ht false fun O r7 => ?_
      refine .yes ?_ r7 (x6.upd_in (fb_in L))
      rw [hc] at hx
      simp only [Ms.fin, hf, hc, hx, if_true]; rfl
    · have hc : e.err ≠ 12 := by simpa using hc
      refine .yes ?_ r6 x6
      simp only [Ms.fin, hf, hx, hc, if_false]; rfl

end Go.Md

/-
  Waiters, Left; the tellers: Wake, Notify, All.
-/
set_option linter.unusedSimpArgs false
set_option linter.unusedVariables false
namespace Go.Md
open Go Go.Sx Go.Proofs Go.Proofs.Ytnnedfhpicdacaa

theorem IntsAt.from {g h h' : PH} {v : Value} {l : List Int} (le : g.le h) (i : IntsAt h h' v l) : IntsAt g h' v l := by
  obtain ⟨p, n, c, S, e, i, l', nS⟩ := i
  exact ⟨p, n, c, S, e, i, PH.le_trans le l', fun b hb => none_of le (nS b hb)⟩

theorem meets_Waiters {h : PH} {L : ML} {s : Ms} (r : MRep h L s) (few : s.waits.length ≤ 64) (o : Int) : Meets Try.prog 22 #[mp L, .int .i64 o] h fun v h' => IntsAt h h' v (sortI (s.waiters o)) := by
  obtain ⟨c, c', cm⟩ := r.cm
  apply P_model_Model_Waiters_of
  unfold P_model_Model_Waiters
  refine (meets_ok r).look ?_
  simp only [xNn_some, add_mk, cell_mk, upd_at, del_at, if_true, if_false, Option.bind_some, List.getElem?_toArray, List.getElem?_cons_succ, List.getElem?_cons_zero, oI_some, oS_some, oM_some, oB_some, oP_some, oT_some, xIdx_some, Nat.zero_add, Nat.add_zero, Nat.mul_one]
  refine ⟨fun hx => (by cases hx), fun _ => ?_⟩
  simp only [xNn_some, add_mk, cell_mk, upd_at, del_at, if_true, if_false, Option.bind_some, List.getElem?_toArray, List.getElem?_cons_succ, List.getElem?_cons_zero, oI_some, oS_some, oM_some, oB_some, oP_some, oT_some, xIdx_some, Nat.zero_add, Nat.add_zero, Nat.mul_one, cm]
  refine (meets_threads_waits r.cw few o).mono ?_
  rintro v h' i
  obtain ⟨p, n, c, S, rfl, i2⟩ := i
  simp only [xNn_some, add_mk, cell_mk, upd_at, del_at, if_true, if_false, Option.bind_some, List.getElem?_toArray, List.getElem?_cons_succ, List.getElem?_cons_zero, oI_some, oS_some, oM_some, oB_some, oP_some, oT_some, xIdx_some, Nat.zero_add, Nat.add_zero, Nat.mul_one]
  exact ⟨p, n, c, S, rfl, i2⟩

theorem meets_Left {h : PH} {L : ML} {s : Ms} (r : MRep h L s) (few : s.left.length ≤ 64) (o : Int) : Meets Try.prog 23 #[mp L, .int .i64 o] h fun v h' => IntsAt h h' v (sortI (s.leavers o)) := by
  obtain ⟨c, c', cm⟩ := r.cm
  apply P_model_Model_Left_of
  unfold P_model_Model_Left
  refine (meets_ok r).look ?_
  simp only [xNn_some, add_mk, cell_mk, upd_at, del_at, if_true, if_false, Option.bind_some, List.getElem?_toArray, List.getElem?_cons_succ, List.getElem?_cons_zero, oI_some, oS_some, oM_some, oB_some, oP_some, oT_some, xIdx_some, Nat.zero_add, Nat.add_zero, Nat.mul_one]
  refine ⟨fun hx => (by cases hx), fun _ => ?_⟩
  simp only [xNn_some, add_mk, cell_mk, upd_at, del_at, if_true, if_false, Option.bind_some, List.getElem?_toArray, List.getElem?_cons_succ, List.getElem?_cons_zero, oI_some, oS_some, oM_some, oB_some, oP_some, oT_some, xIdx_some, Nat.zero_add, Nat.add_zero, Nat.mul_one, cm]
  refine (meets_threads_left r.cl few o).mono ?_
  rintro v h' i
  obtain ⟨p, n, c, S, rfl, i2⟩ := i
  simp only [xNn_some, add_mk, cell_mk, upd_at, del_at, if_true, if_false, Option.bind_some, List.getElem?_toArray, List.getElem?_cons_succ, List.getElem?_cons_zero, oI_some, oS_some, oM_some, oB_some, oP_some, oT_some, xIdx_some, Nat.zero_add, Nat.add_zero, Nat.mul_one]
  exact ⟨p, n, c, S, rfl, i2⟩

theorem Upd.from {h h1 h' : PH} {L : ML} {s : Ms} {o : Option Ms} {v : Value} (x : Ext L.all h h1) (u : Upd h1 L s o v h') : Upd h L s o v h' := ⟨u.1, u.2.1, x.trans' u.2.2⟩

theorem meets_tell {h : PH} {L : ML} {s : Ms} (r : MRep h L s) (few : s.waits.length ≤ 64) (e : Ev) (ho : OIn s e.obj) : Meets Try.prog 82 #[mp L, evV e] h (Upd h L s (s.tell e)) := by
  apply P_model_Model_tell_of
  unfold P_model_Model_tell
  intro b hb
  have r1 := r.new (O := .cells #[.int .i64 e.kind, .int .i64 e.thread, .int .i64 e.obj, .int .i64 e.arg, .int .i64 e.err] 33 (0, 0)) hb
  have x1 : Ext L.all h _ := (Ext.refl L.all h).upd_new (O := .cells #[.int .i64 e.kind, .int .i64 e.thread, .int .i64 e.obj, .int .i64 e.arg, .int .i64 e.err] 33 (0, 0)) hb
  have eb : (h.upd b (.cells #[.int .i64 e.kind, .int .i64 e.thread, .int .i64 e.obj, .int .i64 e.arg, .int .i64 e.err] 33 (0, 0))) b = some (.cells #[.int .i64 e.kind, .int .i64 e.thread, .int .i64 e.obj, .int .i64 e.arg, .int .i64 e.err] 33 (0, 0)) := PH.upd_same _ _ _
  generalize h.upd b (.cells #[.int .i64 e.kind, .int .i64 e.thread, .int .i64 e.obj, .int .i64 e.arg, .int .i64 e.err] 33 (0, 0)) = h1 at r1 x1 eb ⊢
  simp only [xNn_some, add_mk, cell_mk, upd_at, del_at, if_true, if_false, Option.bind_some, List.getElem?_toArray, List.getElem?_cons_succ, List.getElem?_cons_zero, oI_some, oS_some, oM_some, oB_some, oP_some, oT_some, xIdx_some, Nat.zero_add, Nat.add_zero, Nat.mul_one, eb]
  refine (meets_owns r1 e ho).look ?_
  simp only [xNn_some, add_mk, cell_mk, upd_at, del_at, if_true, if_false, Option.bind_some, List.getElem?_toArray, List.getElem?_cons_succ, List.getElem?_cons_zero, oI_some, oS_some, oM_some, oB_some, oP_some, oT_some, xIdx_some, Nat.zero_add, Nat.add_zero, Nat.mul_one, eb]
  refine (meets_Waiters r1 few e.obj).mono ?_
  rintro v h2 ⟨sp, sn, sc, S, rfl, i, l2, nS⟩
  have hn : sn = (s.waiters e.obj).length := i.1.trans (sortI_length _)
  have r2 := r1.le l2
  have x2 : Ext L.all h h2 := x1.trans' (Ext.of_le l2)
  have eb2 := l2 _ _ eb
  clear i l2 nS r1 x1 eb
  subst hn
  have hcast : ∀ n : Nat, (((n : Nat) : Int) == 0) = (n == 0) := fun n => by
    by_cases h : n = 0
    · subst h; rfl
    · have h1 : ((n : Int) == 0) = false := by simpa using h
      have h2 : (n == 0) = false := by simpa using h
      rw [h1, h2]
  simp only [xNn_some, add_mk, cell_mk, upd_at, del_at, if_true, if_false, Option.bind_some, List.getElem?_toArray, List.getElem?_cons_succ, List.getElem?_cons_zero, oI_some, oS_some, oM_some, oB_some, oP_some, oT_some, xIdx_some, Nat.zero_add, Nat.add_zero, Nat.mul_one, eb2, xBlk, hcast]
  refine ⟨fun hc => ?_, fun hc => ?_⟩
  · have hc := beq_iff_eq.1 hc
    refine xSc_and (s.owns e) (fun _ J hJ => hJ) ?_
    have key : s.tell e = if (e.err == 0 && s.owns e) = true then s.leave e.obj e.arg 0 else none := by unfold Ms.tell; rw [if_pos hc]
    refine ⟨fun hx => ?_, fun hx => ?_⟩
    · simp only [xNn_some, add_mk, cell_mk, upd_at, del_at, if_true, if_false, Option.bind_some, List.getElem?_toArray, List.getElem?_cons_succ, List.getElem?_cons_zero, oI_some, oS_some, oM_some, oB_some, oP_some, oT_some, xIdx_some, Nat.zero_add, Nat.add_zero, Nat.mul_one, eb2]
      refine (meets_leave r2 e.obj e.arg 0).mono ?_
      intro v h3 u
      have := u.1
      subst this
      simp only [oB_some]
      have u' := Upd.from x2 u
      rw [key, if_pos hx]
      exact u'
    · rw [hx]
      exact .no (by rw [key, if_neg (by simp [hx])]) r2 x2
  have h7 : e.kind ≠ 7 := by simpa using hc
  refine ⟨fun hc => ?_, fun hc => ?_⟩
  · have hc := beq_iff_eq.1 hc
    have key : s.tell e = if (!s.owns e && (e.kind == 9 && e.arg == 0 || e.kind == 8 && e.arg == -1)) = true then some s else none := by unfold Ms.tell; rw [if_neg h7, if_pos hc]
    refine xSc_and (e.kind == 9 && e.arg == 0 || e.kind == 8 && e.arg == -1) (fun _ J hJ => ?_) (.look _ key r2 x2)
    refine xSc_and (e.arg == 0) (fun _ J hJ => hJ) ?_
    refine xSc_or (e.kind == 8 && e.arg == -1) (fun _ J hJ => ?_) hJ
    simp only [xNn_some, add_mk, cell_mk, upd_at, del_at, if_true, if_false, Option.bind_some, List.getElem?_toArray, List.getElem?_cons_succ, List.getElem?_cons_zero, oI_some, oS_some, oM_some, oB_some, oP_some, oT_some, xIdx_some, Nat.zero_add, Nat.add_zero, Nat.mul_one, eb2]
    exact xSc_and (e.arg == -1) (fun _ J hJ => hJ) hJ
  have h9 : e.err ≠ 9 := by simpa using hc
  refine xSc_or (!s.owns e) (fun _ J hJ => hJ) ?_
  refine ⟨fun hx => ?_, fun hx => ?_⟩
  · exact .no (by unfold Ms.tell; rw [if_neg h7, if_neg h9, if_pos hx]) r2 x2
  have hx' : ¬(e.err != 0 || !s.owns e) = true := by simp [hx]
  simp only [xNn_some, add_mk, cell_mk, upd_at, del_at, if_true, if_false, Option.bind_some, List.getElem?_toArray, List.getElem?_cons_succ, List.getElem?_cons_zero, oI_some, oS_some, oM_some, oB_some, oP_some, oT_some, xIdx_some, Nat.zero_add, Nat.add_zero, Nat.mul_one, eb2, hcast]
  refine ⟨fun hk => ?_, fun hk => ?_⟩
  · have hk' := beq_iff_eq.1 hk
    have key : s.tell e = if (e.arg == 0 && (s.waiters e.obj).length == 0) = true then some s else none := by unfold Ms.tell; rw [if_neg h7, if_neg h9, if_neg hx', if_pos hk']
    exact xSc_and ((s.waiters e.obj).length == 0) (fun _ J hJ => hJ) (.look _ key r2 x2)
  have hk' : e.kind ≠ 9 := by simpa using hk
  have key : s.tell e = if (s.isThread e.arg || e.arg == -1 && (s.waiters e.obj).length == 0) = true then some s else none := by unfold Ms.tell; rw [if_neg h7, if_neg h9, if_neg hx', if_neg hk']
  simp only [xNn_some, add_mk, cell_mk, upd_at, del_at, if_true, if_false, Option.bind_some, List.getElem?_toArray, List.getElem?_cons_succ, List.getElem?_cons_zero, oI_some, oS_some, oM_some, oB_some, oP_some, oT_some, xIdx_some, Nat.zero_add, Nat.add_zero, Nat.mul_one, eb2]
  refine (meets_isThread r2 e.arg).look ?_
  simp only [xNn_some, add_mk, cell_mk, upd_at, del_at, if_true, if_false, Option.bind_some, List.getElem?_toArray, List.getElem?_cons_succ, List.getElem?_cons_zero, oI_some, oS_some, oM_some, oB_some, oP_some, oT_some, xIdx_some, Nat.zero_add, Nat.add_zero, Nat.mul_one, eb2, hcast]
  refine xSc_or (e.arg == -1 && (s.waiters e.obj).length == 0) (fun _ J hJ => ?_) (.look _ key r2 x2)
  exact xSc_and ((s.waiters e.obj).length == 0) (fun _ J hJ => hJ) hJ

end Go.Md

/-
  A transition, whole; what is asked of a model.
-/
set_option linter.unusedSimpArgs false
set_option linter.unusedVariables false
namespace Go.Md
open Go Go.Sx Go.Proofs Go.Proofs.Ytnnedfhpicdacaa

/-- What an event must be, for a transition to be tried. -/
structure EvIn (s : Ms) (e : Ev) : Prop where
  o : OIn s e.obj
  t0 : 0 ≤ e.thread
  t1 : e.thread.toNat < s.flags.length

theorem Upd.trans {h h1 h' : PH} {L : ML} {s : Ms} {o : Option Ms} {v : Value} (x : Ext L.all h h1) (u : Upd h1 L s o v h') : Upd h L s o v h' := ⟨u.1, u.2.1, x.trans' u.2.2⟩

theorem upd_call {f : FuncId} {args : Array Value} {h h1 : PH} {L : ML} {s : Ms} {o : Option Ms} {Q : Value → PH → Prop} (m : Meets Try.prog f args h1 (Upd h1 L s o)) (x : Ext L.all h h1)
    (k : ∀ h', Upd h L s o (.bool o.isSome) h' → Q (.bool o.isSome) h') : Meets Try.prog f args h1 Q :=
  m.mono fun v h' u => by have := u.1; subst this; exact k h' (u.trans x)

set_option maxHeartbeats 1000000 in
theorem meets_apply {h : PH} {L : ML} {s : Ms} (r : MRep h L s) (e : Ev) (ei : EvIn s e) (few : s.waits.length ≤ 64) : Meets Try.prog 52 #[mp L, evV e] h (Upd h L s (s.apply e)) := by
  have hlt : e.thread < (s.flags.length : Int) := by have := ei.t1; have := ei.t0; omega
  have hfl := r.nf
  have hmf : ∀ x : Int, s.isThread x = true → 0 ≤ x ∧ x < (s.flags.length : Int) ∧ x.toNat < s.flags.length := by
    intro x hx
    simp only [Ms.isThread, Bool.and_eq_true, decide_eq_true_eq] at hx
    omega
  apply P_model_Model_apply_of
  unfold P_model_Model_apply
  intro b hb
  obtain ⟨d1, d2, d3, d4, d5⟩ := r.off hb
  have r1 := r.new (O := .cells #[.int .i64 e.kind, .int .i64 e.thread, .int .i64 e.obj, .int .i64 e.arg, .int .i64 e.err] 33 (0, 0)) hb
  have x1 : Ext L.all h _ := (Ext.refl L.all h).upd_new (O := .cells #[.int .i64 e.kind, .int .i64 e.thread, .int .i64 e.obj, .int .i64 e.arg, .int .i64 e.err] 33 (0, 0)) hb
  have eb : (h.upd b (.cells #[.int .i64 e.kind, .int .i64 e.thread, .int .i64 e.obj, .int .i64 e.arg, .int .i64 e.err] 33 (0, 0))) b = some (.cells #[.int .i64 e.kind, .int .i64 e.thread, .int .i64 e.obj, .int .i64 e.arg, .int .i64 e.err] 33 (0, 0)) := PH.upd_same _ _ _
  generalize h.upd b (.cells #[.int .i64 e.kind, .int .i64 e.thread, .int .i64 e.obj, .int .i64 e.arg, .int .i64 e.err] 33 (0, 0)) = h1 at r1 x1 eb ⊢
  obtain ⟨c, c', cm⟩ := r1.cm
  obtain ⟨j', cf⟩ := r1.cf
  try simp only [xNn_some, add_mk, cell_mk, upd_at, del_at, if_true, if_false, Option.bind_some, List.getElem?_toArray, List.getElem?_cons_succ, List.getElem?_cons_zero, oI_some, oS_some, oM_some, oB_some, oP_some, oT_some, xIdx_some, Nat.zero_add, Nat.add_zero, Nat.mul_one, eb, xBlk]
  -- Enter, Try
  have two : ∀ K : Bool → PH → Prop, K (e.kind == 1 || e.kind == 2) h1 → xIte (e.kind == 1) (fun J => J (e.kind == 1) h1) (fun J => J (e.kind == 2) h1) K := by
    intro K hK
    refine ⟨fun hc => ?_, fun hc => ?_⟩
    · rw [hc] at hK ⊢; exact hK
    · rw [hc] at hK; exact hK
  have call0 : ∀ {f : FuncId} {o : Option Ms} {h1 : PH}, Meets Try.prog f #[mp L, evV e] h1 (Upd h1 L s o) → Ext L.all h h1 → MRep h1 L s → (s.apply e = if e.arg = 0 then o else none) →
      xSc (e.arg == 0) true (fun J => Meets Try.prog f #[mp L, evV e] h1 fun v h' => oB (some v) fun x => J x h') (fun x h' => Upd h L s (s.apply e) (.bool x) h') h1 := by
    intro f o h1 m x r1 ha
    refine ⟨fun hb => ?_, fun hb => ?_⟩
    · have hb := beq_iff_eq.1 hb
      refine upd_call m x fun h' u => ?_
      simp only [oB_some]
      rw [ha, if_pos hb]; exact u
    · have hb' : (e.arg == 0) = false := hb
      have hb : e.arg ≠ 0 := by simpa using hb'
      rw [hb']
      exact Upd.no (o := s.apply e) (by rw [ha, if_neg hb]) r1 x
  refine two _ ⟨fun hc => ?_, fun hc => ?_⟩
  · simp only [Bool.or_eq_true, beq_iff_eq] at hc
    try simp only [xNn_some, add_mk, cell_mk, upd_at, del_at, if_true, if_false, Option.bind_some, List.getElem?_toArray, List.getElem?_cons_succ, List.getElem?_cons_zero, oI_some, oS_some, oM_some, oB_some, oP_some, oT_some, xIdx_some, Nat.zero_add, Nat.add_zero, Nat.mul_one, eb]
    exact call0 (meets_enter r1 e ei.o) x1 r1 (by unfold Ms.apply; rw [if_pos hc])
  have h12 : ¬(e.kind = 1 ∨ e.kind = 2) := by
    intro hk; simp only [Bool.or_eq_false_iff, beq_eq_false_iff_ne] at hc
    rcases hk with hk | hk
    · exact hc.1 hk
    · exact hc.2 hk
  clear two hc
  refine ⟨fun hc => ?_, fun hc => ?_⟩
  · have hc := beq_iff_eq.1 hc
    try simp only [xNn_some, add_mk, cell_mk, upd_at, del_at, if_true, if_false, Option.bind_some, List.getElem?_toArray, List.getElem?_cons_succ, List.getElem?_cons_zero, oI_some, oS_some, oM_some, oB_some, oP_some, oT_some, xIdx_some, Nat.zero_add, Nat.add_zero, Nat.mul_one, eb]
    exact call0 (meets_exit r1 e ei.o) x1 r1 (by unfold Ms.apply; rw [if_neg h12, if_pos hc])
  have h3 : e.kind ≠ 3 := by simpa using hc
  refine ⟨fun hc => ?_, fun hc => ?_⟩
  · have hc := beq_iff_eq.1 hc
    try simp only [xNn_some, add_mk, cell_mk, upd_at, del_at, if_true, if_false, Option.bind_some, List.getElem?_toArray, List.getElem?_cons_succ, List.getElem?_cons_zero, oI_some, oS_some, oM_some, oB_some, oP_some, oT_some, xIdx_some, Nat.zero_add, Nat.add_zero, Nat.mul_one, eb]
    exact call0 (meets_begin r1 e ei.o ei.t0 ei.t1) x1 r1 (by unfold Ms.apply; rw [if_neg h12, if_neg h3, if_pos hc])
  have h4 : e.kind ≠ 4 := by simpa using hc
  refine ⟨fun hc => ?_, fun hc => ?_⟩
  · have hc := beq_iff_eq.1 hc
    refine xDraw_self ?_
    try simp only [xNn_some, add_mk, cell_mk, upd_at, del_at, if_true, if_false, Option.bind_some, List.getElem?_toArray, List.getElem?_cons_succ, List.getElem?_cons_zero, oI_some, oS_some, oM_some, oB_some, oP_some, oT_some, xIdx_some, Nat.zero_add, Nat.add_zero, Nat.mul_one, eb, cm]
    refine xSc_or (e.err == 12 && s.flag e.thread) (fun _ J hJ => ?_) ?_
    · refine xSc_and (s.flag e.thread) (fun _ J hJ => ?_) hJ
      try simp only [xNn_some, add_mk, cell_mk, upd_at, del_at, if_true, if_false, Option.bind_some, List.getElem?_toArray, List.getElem?_cons_succ, List.getElem?_cons_zero, oI_some, oS_some, oM_some, oB_some, oP_some, oT_some, xIdx_some, Nat.zero_add, Nat.add_zero, Nat.mul_one, eb, cm, cf, flArr_get ei.t1]
      exact ⟨ei.t0, hlt, hJ⟩
    refine xSc_and (e.err == 13 || e.err == 12 && s.flag e.thread) (fun _ J hJ => hJ) ?_
    have ha : s.apply e = if (e.arg == 0 && (e.err == 13 || e.err == 12 && s.flag e.thread)) = true then s.leave e.obj e.thread e.err else none := by unfold Ms.apply; rw [if_neg h12, if_neg h3, if_neg h4, if_pos hc]
    refine ⟨fun hx => ?_, fun hx => ?_⟩
    · try simp only [xNn_some, add_mk, cell_mk, upd_at, del_at, if_true, if_false, Option.bind_some, List.getElem?_toArray, List.getElem?_cons_succ, List.getElem?_cons_zero, oI_some, oS_some, oM_some, oB_some, oP_some, oT_some, xIdx_some, Nat.zero_add, Nat.add_zero, Nat.mul_one, eb, cm]
      refine upd_call (meets_leave r1 _ _ _) x1 fun h' u => ?_
      simp only [oB_some]
      rw [ha, if_pos hx]; exact u
    · rw [hx]
      exact Upd.no (o := s.apply e) (by rw [ha, if_neg (by simp [hx])]) r1 x1
  have h5 : e.kind ≠ 5 := by simpa using hc
  refine ⟨fun hc => ?_, fun hc => ?_⟩
  · have hc := beq_iff_eq.1 hc
    try simp only [xNn_some, add_mk, cell_mk, upd_at, del_at, if_true, if_false, Option.bind_some, List.getElem?_toArray, List.getElem?_cons_succ, List.getElem?_cons_zero, oI_some, oS_some, oM_some, oB_some, oP_some, oT_some, xIdx_some, Nat.zero_add, Nat.add_zero, Nat.mul_one, eb]
    exact call0 (meets_end r1 e ei.o ei.t0 ei.t1) x1 r1 (by unfold Ms.apply; rw [if_neg h12, if_neg h3, if_neg h4, if_neg h5, if_pos hc])
  have h6 : e.kind ≠ 6 := by simpa using hc
  have three : ∀ K : Bool → PH → Prop, K (e.kind == 7 || (e.kind == 8 || e.kind == 9)) h1 → xIte (e.kind == 7) (fun J => J (e.kind == 7) h1) (fun J => xIte (e.kind == 8) (fun J => J (e.kind == 8) h1) (fun J => J (e.kind == 9) h1) (fun x h' => J x h')) K := by
    intro K hK
    refine ⟨fun hc => ?_, fun hc => ⟨fun hc' => ?_, fun hc' => ?_⟩⟩
    · rw [hc] at hK ⊢; exact hK
    · rw [hc, hc'] at hK; rw [hc']; exact hK
    · rw [hc, hc'] at hK; exact hK
  refine three _ ⟨fun hc => ?_, fun hc => ?_⟩
  · simp only [Bool.or_eq_true, beq_iff_eq] at hc
    try simp only [xNn_some, add_mk, cell_mk, upd_at, del_at, if_true, if_false, Option.bind_some, List.getElem?_toArray, List.getElem?_cons_succ, List.getElem?_cons_zero, oI_some, oS_some, oM_some, oB_some, oP_some, oT_some, xIdx_some, Nat.zero_add, Nat.add_zero, Nat.mul_one, eb]
    refine upd_call (meets_tell r1 few e ei.o) x1 fun h' u => ?_
    simp only [oB_some]
    rw [show s.apply e = s.tell e from by unfold Ms.apply; rw [if_neg h12, if_neg h3, if_neg h4, if_neg h5, if_neg h6, if_pos hc]]
    exact u
  have h789 : ¬(e.kind = 7 ∨ e.kind = 8 ∨ e.kind = 9) := by
    intro hk; simp only [Bool.or_eq_false_iff, beq_eq_false_iff_ne] at hc
    rcases hk with hk | hk | hk
    · exact hc.1 hk
    · exact hc.2.1 hk
    · exact hc.2.2 hk
  clear three hc call0
  refine ⟨fun hc => ?_, fun hc => ?_⟩
  · have hc := beq_iff_eq.1 hc
    try simp only [xNn_some, add_mk, cell_mk, upd_at, del_at, if_true, if_false, Option.bind_some, List.getElem?_toArray, List.getElem?_cons_succ, List.getElem?_cons_zero, oI_some, oS_some, oM_some, oB_some, oP_some, oT_some, xIdx_some, Nat.zero_add, Nat.add_zero, Nat.mul_one, eb]
    refine upd_call (meets_hash r1 e ei.o) x1 fun h' u => ?_
    simp only [oB_some]
    rw [show s.apply e = s.hash e from by unfold Ms.apply; rw [if_neg h12, if_neg h3, if_neg h4, if_neg h5, if_neg h6, if_neg h789, if_pos hc]]
    exact u
  have h10 : e.kind ≠ 10 := by simpa using hc
  refine ⟨fun hc => ?_, fun hc => ?_⟩
  · have hc := beq_iff_eq.1 hc
    try simp only [xNn_some, add_mk, cell_mk, upd_at, del_at, if_true, if_false, Option.bind_some, List.getElem?_toArray, List.getElem?_cons_succ, List.getElem?_cons_zero, oI_some, oS_some, oM_some, oB_some, oP_some, oT_some, xIdx_some, Nat.zero_add, Nat.add_zero, Nat.mul_one, eb]
    refine upd_call (meets_holds r1 e ei.o) x1 fun h' u => ?_
    simp only [oB_some]
    rw [show s.apply e = s.holds e from by unfold Ms.apply; rw [if_neg h12, if_neg h3, if_neg h4, if_neg h5, if_neg h6, if_neg h789, if_neg h10, if_pos hc]]
    exact u
  have h11 : e.kind ≠ 11 := by simpa using hc
  refine ⟨fun hc => ?_, fun hc => ?_⟩
  · have hc := beq_iff_eq.1 hc
    try simp only [xNn_some, add_mk, cell_mk, upd_at, del_at, if_true, if_false, Option.bind_some, List.getElem?_toArray, List.getElem?_cons_succ, List.getElem?_cons_zero, oI_some, oS_some, oM_some, oB_some, oP_some, oT_some, xIdx_some, Nat.zero_add, Nat.add_zero, Nat.mul_one, eb]
    have ha : s.apply e = if (e.err != 0 || !s.isThread e.arg) = true then none else some (s.setFlag e.arg true) := by unfold Ms.apply; rw [if_neg h12, if_neg h3, if_neg h4, if_neg h5, if_neg h6, if_neg h789, if_neg h10, if_neg h11, if_pos hc]
    refine xSc_or (!s.isThread e.arg) (fun _ J hJ => ?_) ⟨fun hx => ?_, fun hx => ?_⟩
    · refine (meets_isThread r1 e.arg).look ?_
      try simp only [xNn_some, add_mk, cell_mk, upd_at, del_at, if_true, if_false, Option.bind_some, List.getElem?_toArray, List.getElem?_cons_succ, List.getElem?_cons_zero, oI_some, oS_some, oM_some, oB_some, oP_some, oT_some, xIdx_some, Nat.zero_add, Nat.add_zero, Nat.mul_one]
      exact hJ
    · exact Upd.no (o := s.apply e) (by rw [ha, if_pos hx]) r1 x1
    · have ht : s.isThread e.arg = true := by
        cases h : s.isThread e.arg with
        | true => rfl
        | false => rw [h] at hx; simp at hx
      obtain ⟨i0, i1, i2⟩ := hmf _ ht
      refine xDraw_self ?_
      try simp only [xNn_some, add_mk, cell_mk, upd_at, del_at, if_true, if_false, Option.bind_some, List.getElem?_toArray, List.getElem?_cons_succ, List.getElem?_cons_zero, oI_some, oS_some, oM_some, oB_some, oP_some, oT_some, xIdx_some, Nat.zero_add, Nat.add_zero, Nat.mul_one, eb, cm]
      refine ⟨i0, i1, ?_⟩
      refine st_flag r1 i2 true fun O r2 => ?_
      exact Upd.yes (o := s.apply e) (by rw [ha, if_neg (by simp [hx])]) r2 (x1.upd_in (fb_in L))
  have h12' : e.kind ≠ 12 := by simpa using hc
  exact .no (by unfold Ms.apply; rw [if_neg h12, if_neg h3, if_neg h4, if_neg h5, if_neg h6, if_neg h789, if_neg h10, if_neg h11, if_neg h12']) r1 x1

theorem evIn_of_may {s : Ms} {e : Ev} (h : s.may e = true) : EvIn s e := by
  simp only [Ms.may, Ms.isThread, Ms.isObj, Bool.and_eq_true, decide_eq_true_eq] at h
  obtain ⟨⟨⟨a, b⟩, c, d⟩, _⟩ := h
  exact ⟨⟨c, by omega⟩, a, by omega⟩

theorem meets_Apply {h : PH} {L : ML} {s : Ms} (r : MRep h L s) (e : Ev) (few : s.waits.length ≤ 64) :
    Meets Try.prog 14 #[mp L, evV e] h fun v h' => v = .int .i64 (s.code e) ∧ MRep h' L (s.next e) ∧ Ext L.all h h' := by
  apply P_model_Model_Apply_of
  unfold P_model_Model_Apply
  intro b hb
  have r1 := r.new (O := .cells #[.int .i64 e.kind, .int .i64 e.thread, .int .i64 e.obj, .int .i64 e.arg, .int .i64 e.err] 33 (0, 0)) hb
  have x1 : Ext L.all h _ := (Ext.refl L.all h).upd_new (O := .cells #[.int .i64 e.kind, .int .i64 e.thread, .int .i64 e.obj, .int .i64 e.arg, .int .i64 e.err] 33 (0, 0)) hb
  have eb : (h.upd b (.cells #[.int .i64 e.kind, .int .i64 e.thread, .int .i64 e.obj, .int .i64 e.arg, .int .i64 e.err] 33 (0, 0))) b = some (.cells #[.int .i64 e.kind, .int .i64 e.thread, .int .i64 e.obj, .int .i64 e.arg, .int .i64 e.err] 33 (0, 0)) := PH.upd_same _ _ _
  generalize h.upd b (.cells #[.int .i64 e.kind, .int .i64 e.thread, .int .i64 e.obj, .int .i64 e.arg, .int .i64 e.err] 33 (0, 0)) = h1 at r1 x1 eb ⊢
  try simp only [xNn_some, add_mk, cell_mk, upd_at, del_at, if_true, if_false, Option.bind_some, List.getElem?_toArray, List.getElem?_cons_succ, List.getElem?_cons_zero, oI_some, oS_some, oM_some, oB_some, oP_some, oT_some, xIdx_some, Nat.zero_add, Nat.add_zero, Nat.mul_one, eb]
  refine (meets_may r1 e).look ?_
  try simp only [xNn_some, add_mk, cell_mk, upd_at, del_at, if_true, if_false, Option.bind_some, List.getElem?_toArray, List.getElem?_cons_succ, List.getElem?_cons_zero, oI_some, oS_some, oM_some, oB_some, oP_some, oT_some, xIdx_some, Nat.zero_add, Nat.add_zero, Nat.mul_one, eb]
  cases hm : s.may e with
  | false =>
    refine ⟨fun hx => (by cases hx), fun _ => ⟨fun _ => ?_, fun hx => (by cases hx)⟩⟩
    have hs : s.step e = none := by simp only [Ms.step, hm, if_false, Bool.false_eq_true]
    refine ⟨by simp only [Ms.code, hs]; rfl, ?_, x1⟩
    rw [show s.next e = s from by simp only [Ms.next, hs]; rfl]
    exact r1
  | true =>
    refine ⟨fun _ => ?_, fun hx => (by cases hx)⟩
    refine upd_call (meets_apply r1 e (evIn_of_may hm) few) x1 fun h' u => ?_
    simp only [oB_some]
    have hs : s.step e = s.apply e := by simp only [Ms.step, hm, if_true]
    refine ⟨fun hx => ?_, fun hx => ?_⟩
    · have : s.apply e = none := by simpa using hx
      refine ⟨by simp only [Ms.code, hs, this]; rfl, ?_, u.2.2⟩
      rw [show s.next e = (s.apply e).getD s from by simp only [Ms.next, hs]]
      exact u.2.1
    · have : (s.apply e).isSome = true := by simpa using hx
      refine ⟨by simp only [Ms.code, hs, this, if_true], ?_, u.2.2⟩
      rw [show s.next e = (s.apply e).getD s from by simp only [Ms.next, hs]]
      exact u.2.1

end Go.Md

/-
  maps.Clone at this program's two maps.
-/
namespace Go.Md
open Go.Proofs Go.RowKit

set_option maxRecDepth 100000 in
set_option maxHeartbeats 2000000 in
theorem clone_waits (b : Nat) (es : Array MapEntry) (clock : Nat) (w : World) (hb : w.heap[b]? = some (.map es clock)) :
    Calls Try.prog 49 #[.map (some b)] w fun e w' => e = .returned (.map (some w.heap.size)) ∧ w' = w.alloc (.map es clock) := by
  have hq := fun w => run_eql_map_nil_sl (P := Try.prog) w 42 _ _ (some b) Try.underlying42
  go_enter Try.func49, Try.ntmps49
  go_wp2
  rw [run_callFunc_extern Try.func75 (by kernel_rfl) (by kernel_rfl) (by kernel_rfl) (e := Extern.MapsClone.clone) (by kernel_rfl), run_maps_clone_sl w 42 hb]
  simp only [Result.andThen]
  rw [Oper.upon_value]
  go_wp2
  rw [run_typeAssert_map_sl _ 42 20 _ _ _ Try.underlying42]
  simp only [Result.andThen]
  rw [Oper.upon_value]
  go_wp2
  go_ret
  exact ⟨rfl, rfl⟩

set_option maxRecDepth 100000 in
set_option maxHeartbeats 2000000 in
theorem clone_left (b : Nat) (es : Array MapEntry) (clock : Nat) (w : World) (hb : w.heap[b]? = some (.map es clock)) :
    Calls Try.prog 50 #[.map (some b)] w fun e w' => e = .returned (.map (some w.heap.size)) ∧ w' = w.alloc (.map es clock) := by
  have hq := fun w => run_eql_map_nil_sl (P := Try.prog) w 43 _ _ (some b) Try.underlying43
  go_enter Try.func50, Try.ntmps50
  go_wp2
  rw [run_callFunc_extern Try.func75 (by kernel_rfl) (by kernel_rfl) (by kernel_rfl) (e := Extern.MapsClone.clone) (by kernel_rfl), run_maps_clone_sl w 43 hb]
  simp only [Result.andThen]
  rw [Oper.upon_value]
  go_wp2
  rw [run_typeAssert_map_sl _ 43 20 _ _ _ Try.underlying43]
  simp only [Result.andThen]
  rw [Oper.upon_value]
  go_wp2
  go_ret
  exact ⟨rfl, rfl⟩

end Go.Md

/-
  New models, and clones.
-/
set_option linter.unusedSimpArgs false
set_option linter.unusedVariables false
namespace Go.Md
open Go Go.Sx Go.Proofs Go.Proofs.Ytnnedfhpicdacaa

theorem upd_del {h : PH} {b : Nat} {O : Obj} (n : h b = none) : (h.upd b O).del b = h := by
  funext x; simp only [del_at, upd_at]; split
  · rename_i e; subst e; exact n.symm
  · rfl

theorem meets_clone_mons {h : PH} {ob : Nat} {l : List Mo} {j : List Value} {n c : Nat} (co : h ob = some (.cells (moArr l j) 117 (0, 0))) (hn : n = l.length) (h8 : n ≤ 8) :
    Meets Try.prog 47 #[.slice (some ⟨ob, 0, none⟩) n c] h fun v h' => ∃ b cap j', v = .slice (some ⟨b, 0, none⟩) n cap ∧ h b = none ∧ h' = h.upd b (.cells (moArr l j') 117 (0, 0)) := by
  subst hn
  apply P_slices_Clone_model_monitor_model_monitor_of
  unfold P_slices_Clone_model_monitor_model_monitor
  refine ⟨fun hx => (by cases hx), fun _ => ?_⟩
  intro b5 hb5
  have hne : ob ≠ b5 := ne_of_known co hb5
  have hlen : ((l.map moV).flatten).length = l.length * 3 := by
    have := moArr_size (l := l) (junk := [])
    simpa [moArr] using this
  refine ⟨(l.map moV).flatten, l.length, ⟨rfl, hlen, ?_⟩, ?_, by omega, [], [], rfl, PH.upd_same _ _ _, rfl, by simp, Nat.le_refl _, ?_⟩
  · intro i hi
    simp only [add_mk, cell_mk, upd_at, hne, if_false, co, Option.bind_some, Nat.zero_add]
    simp only [moArr, List.getElem?_toArray]
    rw [List.getElem?_append_left (by omega)]
  · intro v hv
    simp only [List.mem_flatten, List.mem_map] at hv
    obtain ⟨_, ⟨m, _, rfl⟩, hv⟩ := hv
    simp only [moV, List.mem_cons, List.not_mem_nil, or_false] at hv
    rcases hv with rfl | rfl | rfl <;> rfl
  · intro b cap' junk hb hc hj
    rw [upd_del hb5] at hb ⊢
    simp only [Nat.zero_add] at hj ⊢
    exact ⟨b, cap', junk, rfl, hb, rfl⟩

theorem meets_clone_flags {h : PH} {fb : Nat} {l : List Bool} {j : List Value} {n c : Nat} (co : h fb = some (.cells (flArr l j) 4 (0, 0))) (hn : n = l.length) (h8 : n ≤ 8) :
    Meets Try.prog 48 #[.slice (some ⟨fb, 0, none⟩) n c] h fun v h' => ∃ b cap j', v = .slice (some ⟨b, 0, none⟩) n cap ∧ h b = none ∧ h' = h.upd b (.cells (flArr l j') 4 (0, 0)) := by
  subst hn
  apply P_slices_Clone_bool_bool_of
  unfold P_slices_Clone_bool_bool
  refine ⟨fun hx => (by cases hx), fun _ => ?_⟩
  intro b5 hb5
  have hne : fb ≠ b5 := ne_of_known co hb5
  refine ⟨l.map Value.bool, l.length, ⟨rfl, by simp, ?_⟩, ?_, by omega, [], [], rfl, PH.upd_same _ _ _, rfl, by simp, Nat.le_refl _, ?_⟩
  · intro i hi
    simp only [add_mk, cell_mk, upd_at, hne, if_false, co, Option.bind_some, Nat.zero_add]
    simp only [flArr, List.getElem?_toArray]
    rw [List.getElem?_append_left (by simpa using hi)]
  · intro v hv
    simp only [List.mem_map] at hv
    obtain ⟨b, _, rfl⟩ := hv
    rfl
  · intro b cap' junk hb hc hj
    rw [upd_del hb5] at hb ⊢
    simp only [Nat.zero_add] at hj ⊢
    exact ⟨b, cap', junk, rfl, hb, rfl⟩

theorem meets_clone_map {f : FuncId} (hc : ∀ (b : Nat) (es : Array MapEntry) (clock : Nat) (w : World), w.heap[b]? = some (.map es clock) → Calls Try.prog f #[.map (some b)] w fun e w' => e = .returned (.map (some w.heap.size)) ∧ w' = w.alloc (.map es clock))
    {h : PH} {b : Nat} {es : Array MapEntry} {cl : Nat} (hb : h b = some (.map es cl)) : Meets Try.prog f #[.map (some b)] h fun v h' => ∃ b', v = .map (some b') ∧ h b' = none ∧ h' = h.upd b' (.map es cl) := by
  intro W w st
  refine (hc b es cl w (st.sh _ _ hb)).mono ?_
  rintro e w' ⟨rfl, rfl⟩
  exact ⟨_, _, rfl, st.push _, _, rfl, st.fresh, rfl⟩
theorem meets_clone_waits {α : Type} {enc : α → Value} {h : PH} {b : Nat} {l : Pl α} (r : MapRep enc h b l) :
    Meets Try.prog 49 #[.map (some b)] h fun v h' => ∃ b' O, v = .map (some b') ∧ h b' = none ∧ h' = h.upd b' O ∧ MapRep enc h' b' l := by
  obtain ⟨es, cl, hb, x⟩ := r
  refine (meets_clone_map (fun b es clock w hb => clone_waits b es clock w hb) hb).mono ?_
  rintro v h' ⟨b', rfl, n, rfl⟩
  exact ⟨b', _, rfl, n, rfl, es, cl, PH.upd_same _ _ _, x⟩
theorem meets_clone_left {α : Type} {enc : α → Value} {h : PH} {b : Nat} {l : Pl α} (r : MapRep enc h b l) :
    Meets Try.prog 50 #[.map (some b)] h fun v h' => ∃ b' O, v = .map (some b') ∧ h b' = none ∧ h' = h.upd b' O ∧ MapRep enc h' b' l := by
  obtain ⟨es, cl, hb, x⟩ := r
  refine (meets_clone_map (fun b es clock w hb => clone_left b es clock w hb) hb).mono ?_
  rintro v h' ⟨b', rfl, n, rfl⟩
  exact ⟨b', _, rfl, n, rfl, es, cl, PH.upd_same _ _ _, x⟩

/-- A model that is new behind 'h'. -/
def Fresh (h h' : PH) (v : Value) (s : Ms) : Prop := ∃ L, v = mp L ∧ MRep h' L s ∧ h.le h' ∧ ∀ b ∈ L.all, h b = none

theorem meets_Clone {h : PH} {L : ML} {s : Ms} (r : MRep h L s) : Meets Try.prog 13 #[mp L] h fun v h' => Fresh h h' v s := by
  apply P_model_Model_Clone_of
  unfold P_model_Model_Clone
  refine (meets_ok r).look ?_
  try simp only [xNn_some, add_mk, cell_mk, upd_at, del_at, if_true, if_false, Option.bind_some, List.getElem?_toArray, List.getElem?_cons_succ, List.getElem?_cons_zero, oI_some, oS_some, oM_some, oB_some, oP_some, oT_some, xIdx_some, Nat.zero_add, Nat.add_zero, Nat.mul_one]
  refine ⟨fun hx => (by cases hx), fun _ => ?_⟩
  obtain ⟨c, c', cm⟩ := r.cm
  obtain ⟨j, co⟩ := r.co
  obtain ⟨j', cf⟩ := r.cf
  refine xDraw_self ?_
  try simp only [xNn_some, add_mk, cell_mk, upd_at, del_at, if_true, if_false, Option.bind_some, List.getElem?_toArray, List.getElem?_cons_succ, List.getElem?_cons_zero, oI_some, oS_some, oM_some, oB_some, oP_some, oT_some, xIdx_some, Nat.zero_add, Nat.add_zero, Nat.mul_one, cm]
  refine (meets_clone_mons co rfl r.nm).mono ?_
  rintro _ _ ⟨b1, cap1, j1, rfl, n1, rfl⟩
  try simp only [xNn_some, add_mk, cell_mk, upd_at, del_at, if_true, if_false, Option.bind_some, List.getElem?_toArray, List.getElem?_cons_succ, List.getElem?_cons_zero, oI_some, oS_some, oM_some, oB_some, oP_some, oT_some, xIdx_some, Nat.zero_add, Nat.add_zero, Nat.mul_one]
  have l1 : h.le _ := PH.le_upd (O := .cells (moArr s.mons j1) 117 (0, 0)) n1
  have k1 := PH.upd_same h b1 (.cells (moArr s.mons j1) 117 (0, 0))
  generalize h.upd b1 (.cells (moArr s.mons j1) 117 (0, 0)) = h1 at l1 k1 ⊢
  refine ⟨l1, ?_⟩
  refine (meets_clone_flags (l1 _ _ cf) rfl r.nf).mono ?_
  rintro _ _ ⟨b2, cap2, j2, rfl, n2, rfl⟩
  try simp only [xNn_some, add_mk, cell_mk, upd_at, del_at, if_true, if_false, Option.bind_some, List.getElem?_toArray, List.getElem?_cons_succ, List.getElem?_cons_zero, oI_some, oS_some, oM_some, oB_some, oP_some, oT_some, xIdx_some, Nat.zero_add, Nat.add_zero, Nat.mul_one]
  have l2 : h1.le _ := PH.le_upd (O := .cells (flArr s.flags j2) 4 (0, 0)) n2
  have k2 := PH.upd_same h1 b2 (.cells (flArr s.flags j2) 4 (0, 0))
  generalize h1.upd b2 (.cells (flArr s.flags j2) 4 (0, 0)) = h2 at l2 k2 ⊢
  have l2' := PH.le_trans l1 l2
  refine ⟨l2', ?_⟩
  refine (meets_clone_waits (r.le l2').cw).mono ?_
  rintro _ _ ⟨b3, O3, rfl, n3, rfl, m3⟩
  try simp only [xNn_some, add_mk, cell_mk, upd_at, del_at, if_true, if_false, Option.bind_some, List.getElem?_toArray, List.getElem?_cons_succ, List.getElem?_cons_zero, oI_some, oS_some, oM_some, oB_some, oP_some, oT_some, xIdx_some, Nat.zero_add, Nat.add_zero, Nat.mul_one]
  have l3 : h2.le _ := PH.le_upd (O := O3) n3
  have k3 := PH.upd_same h2 b3 O3
  generalize h2.upd b3 O3 = h3 at l3 k3 m3 ⊢
  have l3' := PH.le_trans l2' l3
  refine ⟨l3', ?_⟩
  refine (meets_clone_left (r.le l3').cl).mono ?_
  rintro _ _ ⟨b4, O4, rfl, n4, rfl, m4⟩
  try simp only [xNn_some, add_mk, cell_mk, upd_at, del_at, if_true, if_false, Option.bind_some, List.getElem?_toArray, List.getElem?_cons_succ, List.getElem?_cons_zero, oI_some, oS_some, oM_some, oB_some, oP_some, oT_some, xIdx_some, Nat.zero_add, Nat.add_zero, Nat.mul_one]
  have l4 : h3.le _ := PH.le_upd (O := O4) n4
  have k4 := PH.upd_same h3 b4 O4
  generalize h3.upd b4 O4 = h4 at l4 k4 m4 ⊢
  have l4' := PH.le_trans l3' l4
  refine ⟨l4', ?_⟩
  intro b0 n0
  have lz : h4.le _ := PH.le_upd (O := .cells #[.int .i64 s.most, .slice (some ⟨b1, 0, none⟩) s.mons.length cap1, .slice (some ⟨b2, 0, none⟩) s.flags.length cap2, .map (some b3), .map (some b4)] 45 (0, 0)) n0
  have kz := PH.upd_same h4 b0 (.cells #[.int .i64 s.most, .slice (some ⟨b1, 0, none⟩) s.mons.length cap1, .slice (some ⟨b2, 0, none⟩) s.flags.length cap2, .map (some b3), .map (some b4)] 45 (0, 0))
  generalize h4.upd b0 (.cells #[.int .i64 s.most, .slice (some ⟨b1, 0, none⟩) s.mons.length cap1, .slice (some ⟨b2, 0, none⟩) s.flags.length cap2, .map (some b3), .map (some b4)] 45 (0, 0)) = h5 at lz kz ⊢
  refine ⟨PH.le_trans l4' lz, ⟨b0, b1, b2, b3, b4⟩, rfl, ?_, PH.le_trans l4' lz, ?_⟩
  · have d12 : b1 ≠ b2 := ne_of_known k1 n2
    have d13 : b1 ≠ b3 := ne_of_known (l2 _ _ k1) n3
    have d14 : b1 ≠ b4 := ne_of_known (l3 _ _ (l2 _ _ k1)) n4
    have d10 : b1 ≠ b0 := ne_of_known (l4 _ _ (l3 _ _ (l2 _ _ k1))) n0
    have d23 : b2 ≠ b3 := ne_of_known k2 n3
    have d24 : b2 ≠ b4 := ne_of_known (l3 _ _ k2) n4
    have d20 : b2 ≠ b0 := ne_of_known (l4 _ _ (l3 _ _ k2)) n0
    have d34 : b3 ≠ b4 := ne_of_known k3 n4
    have d30 : b3 ≠ b0 := ne_of_known (l4 _ _ k3) n0
    have d40 : b4 ≠ b0 := ne_of_known k4 n0
    refine ⟨?_, r.nm, r.nf, ⟨cap1, cap2, kz⟩, ⟨j1, lz _ _ (l4 _ _ (l3 _ _ (l2 _ _ k1)))⟩, ⟨j2, lz _ _ (l4 _ _ (l3 _ _ k2))⟩, ?_, ?_⟩
    · simp only [ML.all, List.nodup_cons, List.mem_cons, List.not_mem_nil, or_false, not_or, not_false_eq_true, List.nodup_nil, and_true]
      exact ⟨⟨d10.symm, d20.symm, d30.symm, d40.symm⟩, ⟨d12, d13, d14⟩, ⟨d23, d24⟩, d34⟩
    · exact m3.of ((lz _ _ (l4 _ _ k3)).trans k3.symm)
    · exact m4.of ((lz _ _ k4).trans k4.symm)
  · have none_of : ∀ {g g' : PH} {b : Nat}, g.le g' → g' b = none → g b = none := by
      intro g g' b l n
      cases hg : g b with
      | none => rfl
      | some O => rw [l _ _ hg] at n; cases n
    intro b hb
    simp only [ML.all, List.mem_cons, List.not_mem_nil, or_false] at hb
    rcases hb with rfl | rfl | rfl | rfl | rfl
    · exact none_of l4' n0
    · exact n1
    · exact none_of l1 n2
    · exact none_of l2' n3
    · exact none_of l3' n4

end Go.Md

/-
  A new model; what is asked of a model.
-/
set_option linter.unusedSimpArgs false
set_option linter.unusedVariables false
namespace Go.Md
open Go Go.Sx Go.Proofs Go.Proofs.Ytnnedfhpicdacaa

def none3 : Mo := ⟨-1, 0, 0⟩

/-- What is made of a new model, so far. -/
structure Half (h : PH) (h' : PH) (m fb wb lb : Nat) (t c : Int) (k : Nat) : Prop where
  le : h.le h'
  nm : h m = none
  nf : h fb = none
  nw : h wb = none
  nl : h lb = none
  nd : [m, fb, wb, lb].Nodup
  fl : h' fb = some (.cells (flArr (List.replicate t.toNat false) []) 4 (0, 0))
  w : h' wb = some (.map #[] 0)
  l : h' lb = some (.map #[] 0)
  mo : ∃ base cap, h' m = some (.cells #[.int .i64 c, .slice base k cap, .slice (some ⟨fb, 0, none⟩) t.toNat t.toNat, .map (some wb), .map (some lb)] 45 (0, 0)) ∧
    ((k = 0 ∧ base = none ∧ cap = 0) ∨ ∃ ob junk, base = some ⟨ob, 0, none⟩ ∧ h' ob = some (.cells (moArr (List.replicate k none3) junk) 117 (0, 0)) ∧ junk.length = (cap - k) * 3 ∧ k ≤ cap ∧ h ob = none ∧ ob ∉ [m, fb, wb, lb])

theorem moArr_app (k : Nat) (junk : List Value) : ((List.replicate k none3).map moV).flatten ++ [Value.int .i64 (-1), .int .i64 0, .int .i64 0] ++ junk = ((List.replicate (k + 1) none3).map moV).flatten ++ junk := by
  congr 1
  rw [List.replicate_succ', List.map_append, List.flatten_append]
  rfl
theorem mo_len (k : Nat) : (((List.replicate k none3).map moV).flatten).length = k * 3 := by
  have := moArr_size (l := List.replicate k none3) (junk := [])
  simpa [moArr] using this

def inRange (n a b : Int) : Bool := decide (a ≤ n) && decide (n ≤ b)
/-- What New answers. -/
def newOk (t o c : Int) : Bool := inRange t 1 8 && (inRange o 1 8 && inRange c 1 60)

theorem meets_New_no {h : PH} (t o c : Int) (hn : newOk t o c = false) : Meets Try.prog 11 #[.int .i64 t, .int .i64 o, .int .i64 c] h fun v h' => v = .tuple #[.pointer none, .int .i64 1] ∧ h' = h := by
  apply P_model_New_of
  unfold P_model_New
  refine (meets_in _ _ _).look ?_
  try simp only [xNn_some, add_mk, cell_mk, upd_at, del_at, if_true, if_false, Option.bind_some, List.getElem?_toArray, List.getElem?_cons_succ, List.getElem?_cons_zero, oI_some, oS_some, oM_some, oB_some, oP_some, oT_some, xIdx_some, Nat.zero_add, Nat.add_zero, Nat.mul_one]
  refine xSc_or (!(decide (1 ≤ o) && decide (o ≤ 8))) (fun _ J hJ => ?_) ?_
  · refine (meets_in _ _ _).look ?_
    try simp only [xNn_some, add_mk, cell_mk, upd_at, del_at, if_true, if_false, Option.bind_some, List.getElem?_toArray, List.getElem?_cons_succ, List.getElem?_cons_zero, oI_some, oS_some, oM_some, oB_some, oP_some, oT_some, xIdx_some, Nat.zero_add, Nat.add_zero, Nat.mul_one]
    exact hJ
  refine xSc_or (!(decide (1 ≤ c) && decide (c ≤ 60))) (fun _ J hJ => ?_) ?_
  · refine (meets_in _ _ _).look ?_
    try simp only [xNn_some, add_mk, cell_mk, upd_at, del_at, if_true, if_false, Option.bind_some, List.getElem?_toArray, List.getElem?_cons_succ, List.getElem?_cons_zero, oI_some, oS_some, oM_some, oB_some, oP_some, oT_some, xIdx_some, Nat.zero_add, Nat.add_zero, Nat.mul_one]
    exact hJ
  refine ⟨fun _ => ⟨trivial, rfl⟩, fun hx => ?_⟩
  exfalso
  revert hn
  simp only [newOk, inRange]
  revert hx
  generalize (decide (1 ≤ t) && decide (t ≤ 8)) = x
  generalize (decide (1 ≤ o) && decide (o ≤ 8)) = y
  generalize (decide (1 ≤ c) && decide (c ≤ 60)) = z
  cases x <;> cases y <;> cases z <;> simp

theorem meets_New {h : PH} (t o c : Int) (hn : newOk t o c = true) : Meets Try.prog 11 #[.int .i64 t, .int .i64 o, .int .i64 c] h fun v h' => ∃ w, v = .tuple #[w, .int .i64 0] ∧ Fresh h h' w (Ms.new t o c) := by
  have hr : (1 ≤ t ∧ t ≤ 8) ∧ (1 ≤ o ∧ o ≤ 8) ∧ (1 ≤ c ∧ c ≤ 60) := by simpa [newOk, inRange] using hn
  obtain ⟨⟨t1, t2⟩, ⟨o1, o2⟩, c1, c2⟩ := hr
  apply P_model_New_of
  unfold P_model_New
  refine (meets_in _ _ _).look ?_
  try simp only [xNn_some, add_mk, cell_mk, upd_at, del_at, if_true, if_false, Option.bind_some, List.getElem?_toArray, List.getElem?_cons_succ, List.getElem?_cons_zero, oI_some, oS_some, oM_some, oB_some, oP_some, oT_some, xIdx_some, Nat.zero_add, Nat.add_zero, Nat.mul_one]
  refine xSc_or (!(decide (1 ≤ o) && decide (o ≤ 8))) (fun _ J hJ => ?_) ?_
  · refine (meets_in _ _ _).look ?_
    try simp only [xNn_some, add_mk, cell_mk, upd_at, del_at, if_true, if_false, Option.bind_some, List.getElem?_toArray, List.getElem?_cons_succ, List.getElem?_cons_zero, oI_some, oS_some, oM_some, oB_some, oP_some, oT_some, xIdx_some, Nat.zero_add, Nat.add_zero, Nat.mul_one]
    exact hJ
  refine xSc_or (!(decide (1 ≤ c) && decide (c ≤ 60))) (fun _ J hJ => ?_) ?_
  · refine (meets_in _ _ _).look ?_
    try simp only [xNn_some, add_mk, cell_mk, upd_at, del_at, if_true, if_false, Option.bind_some, List.getElem?_toArray, List.getElem?_cons_succ, List.getElem?_cons_zero, oI_some, oS_some, oM_some, oB_some, oP_some, oT_some, xIdx_some, Nat.zero_add, Nat.add_zero, Nat.mul_one]
    exact hJ
  refine ⟨fun hx => ?_, fun _ => ?_⟩
  · simp [t1, t2, o1, o2, c1, c2] at hx
  refine ⟨by omega, by omega, by omega, by omega, ?_⟩
  intro fb nfb
  intro wb nwb
  obtain ⟨d1, nwb⟩ := upd_none nwb
  intro lb nlb
  obtain ⟨d2, nlb⟩ := upd_none nlb
  obtain ⟨d3, nlb⟩ := upd_none nlb
  intro m nm
  obtain ⟨d4, nm⟩ := upd_none nm
  obtain ⟨d5, nm⟩ := upd_none nm
  obtain ⟨d6, nm⟩ := upd_none nm
  have start : Half h ((((h.upd fb (.cells (List.replicate t.toNat [Value.bool false]).flatten.toArray 4 (0, 0))).upd wb (.map #[] 0)).upd lb (.map #[] 0)).upd m (.cells #[.int .i64 c, .slice none 0 0, .slice (some ⟨fb, 0, none⟩) t.toNat t.toNat, .map (some wb), .map (some lb)] 45 (0, 0))) m fb wb lb t c 0 := by
    refine ⟨?_, nm, nfb, nwb, nlb, ?_, ?_, ?_, ?_, none, 0, PH.upd_same _ _ _, .inl ⟨rfl, rfl, rfl⟩⟩
    · exact upd_le_upd nm (upd_le_upd nlb (upd_le_upd nwb (upd_le_upd nfb (PH.le_refl h))))
    · simp only [List.nodup_cons, List.mem_cons, List.not_mem_nil, or_false, not_or, not_false_eq_true, List.nodup_nil, and_true]
      exact ⟨⟨d6.symm, d5.symm, d4.symm⟩, ⟨d1, d3⟩, d2⟩
    · simp only [upd_at, d6, d3, d1, if_true, if_false]
      congr 2
      simp only [flArr, List.append_nil, List.map_replicate]
      congr 1
      generalize t.toNat = n
      induction n with
      | zero => rfl
      | succ n ih => simp only [List.replicate_succ, List.flatten_cons, ih]; rfl
    · simp only [upd_at, d5, d2, if_true, if_false]
    · simp only [upd_at, d4, if_true, if_false]
  generalize ((((h.upd fb (.cells (List.replicate t.toNat [Value.bool false]).flatten.toArray 4 (0, 0))).upd wb (.map #[] 0)).upd lb (.map #[] 0)).upd m (.cells #[.int .i64 c, .slice none 0 0, .slice (some ⟨fb, 0, none⟩) t.toNat t.toNat, .map (some wb), .map (some lb)] 45 (0, 0))) = h1 at start ⊢
  clear d1 d2 d3 d4 d5 d6 nm nlb nwb nfb
  refine xLoop1 (fun (x : Int) h' => ∃ k : Nat, x = k ∧ (k : Int) ≤ o ∧ Half h h' m fb wb lb t c k) (fun (x : Int) _ => (o - x).toNat) ?_ ⟨0, rfl, by omega, start⟩
  clear start h1
  rintro J x h1 ⟨k, rfl, hk, H⟩ hJ
  refine ⟨fun hc => ?_, fun hc => ?_⟩
  · have hc := of_decide_eq_true hc
    obtain ⟨le, nm, nf, nw, nl, nd, fl, w, l, base, cap, hm, hb⟩ := H
    have hnd := nd
    simp only [List.nodup_cons, List.mem_cons, List.not_mem_nil, or_false, not_or, not_false_eq_true, List.nodup_nil, and_true] at hnd
    obtain ⟨⟨q1, q2, q3⟩, ⟨q4, q5⟩, q6⟩ := hnd
    have hwr : IntKind.wrap .i64 ((k : Int) + 1) = ((k + 1 : Nat) : Int) := by rw [wrap64_id (by omega) (by omega)]; simp
    have hfit : (2 * (k + 1) + 192) * 24 ≤ 2 ^ 48 := by omega
    have hk1 : ((k + 1 : Nat) : Int) ≤ o := by omega
    have hmu : (o - ((k + 1 : Nat) : Int)).toNat < (o - (k : Int)).toNat := by omega
    simp only [xNn_some, add_mk, cell_mk, upd_at, del_at, if_true, if_false, Option.bind_some, List.getElem?_toArray, List.getElem?_cons_succ, List.getElem?_cons_zero, oI_some, oS_some, oM_some, oB_some, oP_some, oT_some, xIdx_some, Nat.zero_add, Nat.add_zero, Nat.mul_one, xBlk, hm]
    intro b n
    have e1 : m ≠ b := ne_of_known hm n
    have e2 : fb ≠ b := ne_of_known fl n
    have e3 : wb ≠ b := ne_of_known w n
    have e4 : lb ≠ b := ne_of_known l n
    have hnb : h b = none := by
      cases hg : h b with
      | none => rfl
      | some O => rw [le _ _ hg] at n; cases n
    have fin : ∀ (h2 : PH) (ob cap' : Nat) (junk : List Value), h.le h2 → h2 m = h1 m → h2 fb = h1 fb → h2 wb = h1 wb → h2 lb = h1 lb → h ob = none → ob ∉ [m, fb, wb, lb] → h2 ob = some (.cells (moArr (List.replicate (k + 1) none3) junk) 117 (0, 0)) → junk.length = (cap' - (k + 1)) * 3 → k + 1 ≤ cap' →
        xSt 1 h2 ⟨m, 1, none⟩ [.slice (some ⟨ob, 0, none⟩) (k + 1) cap'] (fun h' => J (IntKind.wrap .i64 ((k : Int) + 1)) h') := by
      intro h2 ob cap' junk l2 f1 f2 f3 f4 hob hoo hoc hj hcap
      refine xSt_mk (f1.trans hm) rfl (by decide) (by simp [oneCell]) (by simp) ?_
      rw [hwr]
      have ho := hoo
      simp only [List.mem_cons, List.not_mem_nil, or_false, not_or] at ho
      refine hJ _ _ ⟨k + 1, rfl, hk1, ?_⟩ hmu
      refine ⟨upd_le_upd nm l2, nm, nf, nw, nl, nd, ?_, ?_, ?_, some ⟨ob, 0, none⟩, cap', PH.upd_same _ _ _, .inr ⟨ob, junk, rfl, ?_, hj, hcap, hob, hoo⟩⟩
      · rw [PH.upd_ne _ _ (Ne.symm q1)]; exact f2.trans fl
      · rw [PH.upd_ne _ _ (Ne.symm q2)]; exact f3.trans w
      · rw [PH.upd_ne _ _ (Ne.symm q3)]; exact f4.trans l
      · rw [PH.upd_ne _ _ ho.1]; exact hoc
    have src : srcCells (h1.upd b (.cells #[.int .i64 (-1), .int .i64 0, .int .i64 0] 117 (0, 0))) 3 (.slice (some ⟨b, 0, none⟩) 1 1) [.int .i64 (-1), .int .i64 0, .int .i64 0] 1 := by
      refine ⟨rfl, rfl, fun i hi => ?_⟩
      simp only [add_mk, cell_mk, upd_at, if_true, Option.bind_some, Nat.zero_add, List.getElem?_toArray]
    have notin : ∀ x, m ≠ x → fb ≠ x → wb ≠ x → lb ≠ x → x ∉ [m, fb, wb, lb] := by
      intro x a b c d
      simp only [List.mem_cons, List.not_mem_nil, or_false, not_or]
      exact ⟨a.symm, b.symm, c.symm, d.symm⟩
    refine ⟨_, 1, src, by simp [oneCell], hfit, ?_⟩
    rcases hb with ⟨rfl, rfl, rfl⟩ | ⟨ob, junk, rfl, hob, hj, hcap, nob, hoo⟩
    · refine ⟨rfl, rfl, fun hx => (by cases hx), fun _ ob cap' junk nb hc' hj => ?_⟩
      obtain ⟨g, nb⟩ := upd_none nb
      have g1 : m ≠ ob := ne_of_known hm nb
      have g2 : fb ≠ ob := ne_of_known fl nb
      have g3 : wb ≠ ob := ne_of_known w nb
      have g4 : lb ≠ ob := ne_of_known l nb
      have hno : h ob = none := by
        cases hg : h ob with
        | none => rfl
        | some O => rw [le _ _ hg] at nb; cases nb
      try simp only [xNn_some, add_mk, cell_mk, upd_at, del_at, if_true, if_false, Option.bind_some, List.getElem?_toArray, List.getElem?_cons_succ, List.getElem?_cons_zero, oI_some, oS_some, oM_some, oB_some, oP_some, oT_some, xIdx_some, Nat.zero_add, Nat.add_zero, Nat.mul_one]
      refine fin _ ob cap' junk (upd_le_upd hno (upd_le_upd hnb le)) ?_ ?_ ?_ ?_ hno (notin ob g1 g2 g3 g4) ?_ hj hc'
      · simp only [upd_at, g1, e1, if_false]
      · simp only [upd_at, g2, e2, if_false]
      · simp only [upd_at, g3, e3, if_false]
      · simp only [upd_at, g4, e4, if_false]
      · rw [PH.upd_same]
        congr 2
    · have ho := hoo
      simp only [List.mem_cons, List.not_mem_nil, or_false, not_or] at ho
      have gob : ob ≠ b := ne_of_known hob n
      refine ⟨((List.replicate k none3).map moV).flatten, junk, rfl, ?_, mo_len k, hj, hcap, fun ob' cap' junk' nb hc' hj' => ?_⟩
      · rw [PH.upd_ne _ _ gob]; exact hob
      · have sm : ∀ x, x ≠ ob → (((h1.upd b (.cells #[.int .i64 (-1), .int .i64 0, .int .i64 0] 117 (0, 0))).del ob) x = none → x ≠ b ∧ h1 x = none) := by
          intro x hx hn
          rw [del_at, if_neg hx] at hn
          have := upd_none hn
          exact ⟨this.1.symm, this.2⟩
        have key : ob' = ob ∨ (ob' ≠ ob ∧ ob' ≠ b ∧ h1 ob' = none) := by
          by_cases hx : ob' = ob
          · exact .inl hx
          · exact .inr ⟨hx, sm _ hx nb⟩
        have g : m ≠ ob' ∧ fb ≠ ob' ∧ wb ≠ ob' ∧ lb ≠ ob' ∧ h ob' = none := by
          rcases key with rfl | ⟨_, _, hx⟩
          · exact ⟨fun e => ho.1 e.symm, fun e => ho.2.1 e.symm, fun e => ho.2.2.1 e.symm, fun e => ho.2.2.2 e.symm, nob⟩
          · refine ⟨ne_of_known hm hx, ne_of_known fl hx, ne_of_known w hx, ne_of_known l hx, ?_⟩
            cases hg : h ob' with
            | none => rfl
            | some O => rw [le _ _ hg] at hx; cases hx
        obtain ⟨g1, g2, g3, g4, hno⟩ := g
        have ledel : h.le ((h1.upd b (.cells #[.int .i64 (-1), .int .i64 0, .int .i64 0] 117 (0, 0))).del ob) := by
          intro x O hx
          have x1 : x ≠ ob := ne_of_known hx nob
          rw [del_at, if_neg x1]
          exact upd_le_upd hnb le _ _ hx
        try simp only [xNn_some, add_mk, cell_mk, upd_at, del_at, if_true, if_false, Option.bind_some, List.getElem?_toArray, List.getElem?_cons_succ, List.getElem?_cons_zero, oI_some, oS_some, oM_some, oB_some, oP_some, oT_some, xIdx_some, Nat.zero_add, Nat.add_zero, Nat.mul_one]
        refine fin _ ob' cap' junk' (upd_le_upd hno ledel) ?_ ?_ ?_ ?_ hno (notin ob' g1 g2 g3 g4) ?_ hj' hc'
        · simp only [upd_at, del_at, g1, e1, Ne.symm ho.1, if_false]
        · simp only [upd_at, del_at, g2, e2, Ne.symm ho.2.1, if_false]
        · simp only [upd_at, del_at, g3, e3, Ne.symm ho.2.2.1, if_false]
        · simp only [upd_at, del_at, g4, e4, Ne.symm ho.2.2.2, if_false]
        · rw [PH.upd_same]
          unfold moArr
          rw [moArr_app]
  · have hc := of_decide_eq_false hc
    have hko : k = o.toNat := by omega
    subst hko
    obtain ⟨le, nm, nf, nw, nl, nd, fl, w, l, base, cap, hm, hb⟩ := H
    rcases hb with ⟨hz, _⟩ | ⟨ob, junk, rfl, hob, hj, hcap, nob, hoo⟩
    · omega
    · simp only [List.mem_cons, List.not_mem_nil, or_false, not_or] at hoo
      have hnd := nd
      simp only [List.nodup_cons, List.mem_cons, List.not_mem_nil, or_false, not_or, not_false_eq_true, List.nodup_nil, and_true] at hnd
      obtain ⟨⟨q1, q2, q3⟩, ⟨q4, q5⟩, q6⟩ := hnd
      have n8 : o.toNat ≤ 8 := by omega
      have t8 : t.toNat ≤ 8 := by omega
      refine ⟨_, rfl, ⟨m, ob, fb, wb, lb⟩, rfl, ?_, le, ?_⟩
      · refine ⟨?_, by simpa [Ms.new] using n8, by simpa [Ms.new] using t8, ⟨cap, t.toNat, ?_⟩, ⟨junk, hob⟩, ⟨[], fl⟩, ⟨#[], 0, w, by simp [Ents, Ms.new], by simp, by simp⟩, ⟨#[], 0, l, by simp [Ents, Ms.new], by simp, by simp⟩⟩
        · simp only [ML.all, List.nodup_cons, List.mem_cons, List.not_mem_nil, or_false, not_or, not_false_eq_true, List.nodup_nil, and_true]
          exact ⟨⟨fun e => hoo.1 e.symm, q1, q2, q3⟩, ⟨hoo.2.1, hoo.2.2.1, hoo.2.2.2⟩, ⟨q4, q5⟩, q6⟩
        · simpa [Ms.new] using hm
      · intro b hb
        simp only [ML.all, List.mem_cons, List.not_mem_nil, or_false] at hb
        rcases hb with rfl | rfl | rfl | rfl | rfl
        · exact nm
        · exact nob
        · exact nf
        · exact nw
        · exact nl

end Go.Md

/-
  A thread's words.
-/
set_option linter.unusedSimpArgs false
set_option linter.unusedVariables false
namespace Go.Gh
open Go Go.Sx Go.Md Go.Proofs Go.Proofs.Ytnnedfhpicdacaa

def oqL (o : Oq) : List Value := [.int .i64 o.kind, .int .i64 o.obj, .int .i64 o.arg]
def evL (e : Ev) : List Value := [.int .i64 e.kind, .int .i64 e.thread, .int .i64 e.obj, .int .i64 e.arg, .int .i64 e.err]
def thL (t : Th) : List Value := [.int .i64 t.op.kind, .int .i64 t.op.obj, .int .i64 t.op.arg, .int .i64 t.calls, .bool t.opn, .int .i64 t.many, .int .i64 t.last.kind, .int .i64 t.last.thread, .int .i64 t.last.obj, .int .i64 t.last.arg, .int .i64 t.last.err]
def enL (e : En) : List Value := [.int .i64 e.kind, .int .i64 e.thread, .int .i64 e.number, .int .i64 e.op.kind, .int .i64 e.op.obj, .int .i64 e.op.arg, .int .i64 e.event.kind, .int .i64 e.event.thread, .int .i64 e.event.obj, .int .i64 e.event.arg, .int .i64 e.event.err, .int .i64 e.value, .int .i64 e.err]
def thV (t : Th) : Value := .agg #[.int .i64 t.op.kind, .int .i64 t.op.obj, .int .i64 t.op.arg, .int .i64 t.calls, .bool t.opn, .int .i64 t.many, .int .i64 t.last.kind, .int .i64 t.last.thread, .int .i64 t.last.obj, .int .i64 t.last.arg, .int .i64 t.last.err]
def enV (e : En) : Value := .agg #[.int .i64 e.kind, .int .i64 e.thread, .int .i64 e.number, .int .i64 e.op.kind, .int .i64 e.op.obj, .int .i64 e.op.arg, .int .i64 e.event.kind, .int .i64 e.event.thread, .int .i64 e.event.obj, .int .i64 e.event.arg, .int .i64 e.event.err, .int .i64 e.value, .int .i64 e.err]

theorem meets_commitOf {h : PH} (k : Int) : Meets Try.prog 99 #[.int .i64 k] h fun v h' => v = .int .i64 (commitOf k) ∧ h' = h := by
  apply P_ghost_commitOf_of
  unfold P_ghost_commitOf commitOf
  refine ⟨fun hc => ⟨by have hc := beq_iff_eq.1 hc; subst hc; rfl, rfl⟩, fun hc => ?_⟩
  have h1 : k ≠ 1 := by simpa using hc
  clear hc
  refine ⟨fun hc => ⟨by have hc := beq_iff_eq.1 hc; subst hc; rfl, rfl⟩, fun hc => ?_⟩
  have h2 : k ≠ 2 := by simpa using hc
  clear hc
  refine ⟨fun hc => ⟨by have hc := beq_iff_eq.1 hc; subst hc; rfl, rfl⟩, fun hc => ?_⟩
  have h3 : k ≠ 3 := by simpa using hc
  clear hc
  refine ⟨fun hc => ⟨by have hc := beq_iff_eq.1 hc; subst hc; rfl, rfl⟩, fun hc => ?_⟩
  have h4 : k ≠ 4 := by simpa using hc
  clear hc
  refine ⟨fun hc => ⟨by have hc := beq_iff_eq.1 hc; subst hc; rfl, rfl⟩, fun hc => ?_⟩
  have h5 : k ≠ 5 := by simpa using hc
  clear hc
  refine ⟨fun hc => ⟨by have hc := beq_iff_eq.1 hc; subst hc; rfl, rfl⟩, fun hc => ?_⟩
  have h6 : k ≠ 6 := by simpa using hc
  clear hc
  refine ⟨fun hc => ⟨by have hc := beq_iff_eq.1 hc; subst hc; rfl, rfl⟩, fun hc => ?_⟩
  have h7 : k ≠ 7 := by simpa using hc
  clear hc
  refine ⟨fun hc => ⟨by have hc := beq_iff_eq.1 hc; subst hc; rfl, rfl⟩, fun hc => ?_⟩
  have h8 : k ≠ 8 := by simpa using hc
  clear hc
  refine ⟨fun hc => ⟨by have hc := beq_iff_eq.1 hc; subst hc; rfl, rfl⟩, fun hc => ?_⟩
  have h9 : k ≠ 9 := by simpa using hc
  clear hc
  exact ⟨by simp only [h1, h2, h3, h4, h5, h6, h7, h8, h9, if_false], rfl⟩

theorem meets_of {h : PH} (t : Th) (e : Ev) : Meets Try.prog 100 #[thV t, evV e] h fun v h' => v = .bool (t.of e) ∧ h' = h := by
  apply Meets.same
  apply P_ghost_thread_of_of
  unfold P_ghost_thread_of
  intro b hb b3 hb3
  obtain ⟨n3, hb3⟩ := upd_none hb3
  have l : h.le _ := upd_le_upd hb3 (O := .cells #[.int .i64 e.kind, .int .i64 e.thread, .int .i64 e.obj, .int .i64 e.arg, .int .i64 e.err] 33 (0, 0)) (PH.le_upd (O := .cells #[.int .i64 t.op.kind, .int .i64 t.op.obj, .int .i64 t.op.arg, .int .i64 t.calls, .bool t.opn, .int .i64 t.many, .int .i64 t.last.kind, .int .i64 t.last.thread, .int .i64 t.last.obj, .int .i64 t.last.arg, .int .i64 t.last.err] 147 (0, 0)) hb)
  simp only [xNn_some, add_mk, cell_mk, upd_at, del_at, if_true, if_false, Option.bind_some, List.getElem?_toArray, List.getElem?_cons_succ, List.getElem?_cons_zero, oI_some, oS_some, oM_some, oB_some, oP_some, oT_some, xIdx_some, Nat.zero_add, Nat.add_zero, Nat.mul_one, n3]
  refine ⟨fun hc => ?_, fun hc => ?_⟩
  · have hc := beq_iff_eq.1 hc
    exact xSc_and (e.arg == t.op.arg) (fun _ J hJ => hJ) ⟨by simp only [Th.of, hc, if_true], l⟩
  · have hc : t.op.kind ≠ 9 := by simpa using hc
    try simp only [xNn_some, add_mk, cell_mk, upd_at, del_at, if_true, if_false, Option.bind_some, List.getElem?_toArray, List.getElem?_cons_succ, List.getElem?_cons_zero, oI_some, oS_some, oM_some, oB_some, oP_some, oT_some, xIdx_some, Nat.zero_add, Nat.add_zero, Nat.mul_one, n3]
    exact ⟨by simp only [Th.of, hc, if_false], l⟩

theorem meets_waits {h : PH} (t : Th) (e : Ev) : Meets Try.prog 101 #[thV t, evV e] h fun v h' => v = .bool (t.waits e) ∧ h' = h := by
  apply Meets.same
  apply P_ghost_thread_waits_of
  unfold P_ghost_thread_waits
  intro b hb b3 hb3
  obtain ⟨n3, hb3⟩ := upd_none hb3
  have l : h.le _ := upd_le_upd hb3 (O := .cells #[.int .i64 e.kind, .int .i64 e.thread, .int .i64 e.obj, .int .i64 e.arg, .int .i64 e.err] 33 (0, 0)) (PH.le_upd (O := .cells #[.int .i64 t.op.kind, .int .i64 t.op.obj, .int .i64 t.op.arg, .int .i64 t.calls, .bool t.opn, .int .i64 t.many, .int .i64 t.last.kind, .int .i64 t.last.thread, .int .i64 t.last.obj, .int .i64 t.last.arg, .int .i64 t.last.err] 147 (0, 0)) hb)
  simp only [xNn_some, add_mk, cell_mk, upd_at, del_at, if_true, if_false, Option.bind_some, List.getElem?_toArray, List.getElem?_cons_succ, List.getElem?_cons_zero, oI_some, oS_some, oM_some, oB_some, oP_some, oT_some, xIdx_some, Nat.zero_add, Nat.add_zero, Nat.mul_one, n3, xBlk]
  refine ⟨fun hc => ?_, fun hc => ?_⟩
  · have hc := beq_iff_eq.1 hc
    exact ⟨by simp only [Th.waits, hc, if_true], l⟩
  have h0 : t.many ≠ 0 := by simpa using hc
  refine xSc_and (t.last.err == 0) (fun _ J hJ => hJ) ⟨fun hc => ?_, fun hc => ?_⟩
  · try simp only [xNn_some, add_mk, cell_mk, upd_at, del_at, if_true, if_false, Option.bind_some, List.getElem?_toArray, List.getElem?_cons_succ, List.getElem?_cons_zero, oI_some, oS_some, oM_some, oB_some, oP_some, oT_some, xIdx_some, Nat.zero_add, Nat.add_zero, Nat.mul_one, n3]
    exact xSc_or (e.kind == 6) (fun _ J hJ => hJ) ⟨by simp only [Th.waits, h0, if_false, hc, if_true], l⟩
  · try simp only [xNn_some, add_mk, cell_mk, upd_at, del_at, if_true, if_false, Option.bind_some, List.getElem?_toArray, List.getElem?_cons_succ, List.getElem?_cons_zero, oI_some, oS_some, oM_some, oB_some, oP_some, oT_some, xIdx_some, Nat.zero_add, Nat.add_zero, Nat.mul_one, n3]
    exact xSc_and (e.kind == 6) (fun _ J hJ => hJ) ⟨by simp only [Th.waits, h0, if_false, hc, Bool.false_eq_true], l⟩

theorem meets_tells {h : PH} (t : Th) (e : Ev) : Meets Try.prog 102 #[thV t, evV e] h fun v h' => v = .bool (t.tells e) ∧ h' = h := by
  apply Meets.same
  apply P_ghost_thread_tells_of
  unfold P_ghost_thread_tells
  intro b hb b3 hb3
  obtain ⟨n3, hb3⟩ := upd_none hb3
  have l : h.le _ := upd_le_upd hb3 (O := .cells #[.int .i64 e.kind, .int .i64 e.thread, .int .i64 e.obj, .int .i64 e.arg, .int .i64 e.err] 33 (0, 0)) (PH.le_upd (O := .cells #[.int .i64 t.op.kind, .int .i64 t.op.obj, .int .i64 t.op.arg, .int .i64 t.calls, .bool t.opn, .int .i64 t.many, .int .i64 t.last.kind, .int .i64 t.last.thread, .int .i64 t.last.obj, .int .i64 t.last.arg, .int .i64 t.last.err] 147 (0, 0)) hb)
  simp only [xNn_some, add_mk, cell_mk, upd_at, del_at, if_true, if_false, Option.bind_some, List.getElem?_toArray, List.getElem?_cons_succ, List.getElem?_cons_zero, oI_some, oS_some, oM_some, oB_some, oP_some, oT_some, xIdx_some, Nat.zero_add, Nat.add_zero, Nat.mul_one, n3, xBlk]
  refine xSc_and (t.last.kind != 7) (fun _ J hJ => hJ) ⟨fun hc => ?_, fun hc => ?_⟩
  · exact ⟨by simp only [Th.tells, hc, if_true], l⟩
  have h0 := hc
  try simp only [xNn_some, add_mk, cell_mk, upd_at, del_at, if_true, if_false, Option.bind_some, List.getElem?_toArray, List.getElem?_cons_succ, List.getElem?_cons_zero, oI_some, oS_some, oM_some, oB_some, oP_some, oT_some, xIdx_some, Nat.zero_add, Nat.add_zero, Nat.mul_one, n3]
  refine ⟨fun hc => ?_, fun hc => ?_⟩
  · have hc := beq_iff_eq.1 hc
    exact xSc_or (!decide (t.many > 0)) (fun _ J hJ => hJ) ⟨by simp only [Th.tells, h0, hc, if_false, if_true, Bool.false_eq_true], l⟩
  have h1 : e.kind ≠ 7 := by simpa using hc
  refine xDraw_self ?_
  try simp only [xNn_some, add_mk, cell_mk, upd_at, del_at, if_true, if_false, Option.bind_some, List.getElem?_toArray, List.getElem?_cons_succ, List.getElem?_cons_zero, oI_some, oS_some, oM_some, oB_some, oP_some, oT_some, xIdx_some, Nat.zero_add, Nat.add_zero, Nat.mul_one, n3]
  refine (meets_commitOf t.op.kind).look ?_
  try simp only [xNn_some, add_mk, cell_mk, upd_at, del_at, if_true, if_false, Option.bind_some, List.getElem?_toArray, List.getElem?_cons_succ, List.getElem?_cons_zero, oI_some, oS_some, oM_some, oB_some, oP_some, oT_some, xIdx_some, Nat.zero_add, Nat.add_zero, Nat.mul_one, n3]
  refine ⟨PH.le_refl _, ⟨fun hc => ?_, fun hc => ?_⟩⟩
  · exact ⟨by simp only [Th.tells, h0, h1, hc, if_false, if_true, Bool.false_eq_true], l⟩
  have h2 := hc
  refine ⟨fun hc => ?_, fun hc => ?_⟩
  · have hc := beq_iff_eq.1 hc
    refine ⟨?_, l⟩
    unfold Th.tells
    rw [if_neg (by simp [h0]), if_neg h1, if_neg (by simp [h2]), if_pos hc]
  have h3 : t.op.kind ≠ 6 := by simpa using hc
  refine ⟨fun hc => ?_, fun hc => ?_⟩
  · have hc := of_decide_eq_true hc
    try simp only [xNn_some, add_mk, cell_mk, upd_at, del_at, if_true, if_false, Option.bind_some, List.getElem?_toArray, List.getElem?_cons_succ, List.getElem?_cons_zero, oI_some, oS_some, oM_some, oB_some, oP_some, oT_some, xIdx_some, Nat.zero_add, Nat.add_zero, Nat.mul_one, n3]
    refine ⟨?_, l⟩
    unfold Th.tells
    rw [if_neg (by simp [h0]), if_neg h1, if_neg (by simp [h2]), if_neg h3, if_pos hc]
  · have hc := of_decide_eq_false hc
    try simp only [xNn_some, add_mk, cell_mk, upd_at, del_at, if_true, if_false, Option.bind_some, List.getElem?_toArray, List.getElem?_cons_succ, List.getElem?_cons_zero, oI_some, oS_some, oM_some, oB_some, oP_some, oT_some, xIdx_some, Nat.zero_add, Nat.add_zero, Nat.mul_one, n3]
    refine ⟨?_, l⟩
    unfold Th.tells
    rw [if_neg (by simp [h0]), if_neg h1, if_neg (by simp [h2]), if_neg h3, if_neg hc]

theorem meets_takes {h : PH} (t : Th) (e : Ev) : Meets Try.prog 72 #[thV t, evV e] h fun v h' => v = .bool (t.takes e) ∧ h' = h := by
  apply Meets.same
  apply P_ghost_thread_takes_of
  unfold P_ghost_thread_takes
  intro b hb b3 hb3
  obtain ⟨n3, hb3'⟩ := upd_none hb3
  have l : h.le _ := upd_le_upd hb3' (O := .cells #[.int .i64 e.kind, .int .i64 e.thread, .int .i64 e.obj, .int .i64 e.arg, .int .i64 e.err] 33 (0, 0)) (PH.le_upd (O := .cells #[.int .i64 t.op.kind, .int .i64 t.op.obj, .int .i64 t.op.arg, .int .i64 t.calls, .bool t.opn, .int .i64 t.many, .int .i64 t.last.kind, .int .i64 t.last.thread, .int .i64 t.last.obj, .int .i64 t.last.arg, .int .i64 t.last.err] 147 (0, 0)) hb)
  have eb : ((h.upd b (.cells #[.int .i64 t.op.kind, .int .i64 t.op.obj, .int .i64 t.op.arg, .int .i64 t.calls, .bool t.opn, .int .i64 t.many, .int .i64 t.last.kind, .int .i64 t.last.thread, .int .i64 t.last.obj, .int .i64 t.last.arg, .int .i64 t.last.err] 147 (0, 0))).upd b3 (.cells #[.int .i64 e.kind, .int .i64 e.thread, .int .i64 e.obj, .int .i64 e.arg, .int .i64 e.err] 33 (0, 0))) b = some (.cells #[.int .i64 t.op.kind, .int .i64 t.op.obj, .int .i64 t.op.arg, .int .i64 t.calls, .bool t.opn, .int .i64 t.many, .int .i64 t.last.kind, .int .i64 t.last.thread, .int .i64 t.last.obj, .int .i64 t.last.arg, .int .i64 t.last.err] 147 (0, 0)) := by simp only [upd_at, n3, if_false, if_true]
  have e3 : ((h.upd b (.cells #[.int .i64 t.op.kind, .int .i64 t.op.obj, .int .i64 t.op.arg, .int .i64 t.calls, .bool t.opn, .int .i64 t.many, .int .i64 t.last.kind, .int .i64 t.last.thread, .int .i64 t.last.obj, .int .i64 t.last.arg, .int .i64 t.last.err] 147 (0, 0))).upd b3 (.cells #[.int .i64 e.kind, .int .i64 e.thread, .int .i64 e.obj, .int .i64 e.arg, .int .i64 e.err] 33 (0, 0))) b3 = some (.cells #[.int .i64 e.kind, .int .i64 e.thread, .int .i64 e.obj, .int .i64 e.arg, .int .i64 e.err] 33 (0, 0)) := PH.upd_same _ _ _
  generalize (h.upd b (.cells #[.int .i64 t.op.kind, .int .i64 t.op.obj, .int .i64 t.op.arg, .int .i64 t.calls, .bool t.opn, .int .i64 t.many, .int .i64 t.last.kind, .int .i64 t.last.thread, .int .i64 t.last.obj, .int .i64 t.last.arg, .int .i64 t.last.err] 147 (0, 0))).upd b3 (.cells #[.int .i64 e.kind, .int .i64 e.thread, .int .i64 e.obj, .int .i64 e.arg, .int .i64 e.err] 33 (0, 0)) = h1 at l eb e3 ⊢
  simp only [xNn_some, add_mk, cell_mk, upd_at, del_at, if_true, if_false, Option.bind_some, List.getElem?_toArray, List.getElem?_cons_succ, List.getElem?_cons_zero, oI_some, oS_some, oM_some, oB_some, oP_some, oT_some, xIdx_some, Nat.zero_add, Nat.add_zero, Nat.mul_one, eb, e3, xBlk]
  refine xSc_or (!t.of e) (fun _ J hJ => ?_) ⟨fun hc => ?_, fun hc => ?_⟩
  · try simp only [xNn_some, add_mk, cell_mk, upd_at, del_at, if_true, if_false, Option.bind_some, List.getElem?_toArray, List.getElem?_cons_succ, List.getElem?_cons_zero, oI_some, oS_some, oM_some, oB_some, oP_some, oT_some, xIdx_some, Nat.zero_add, Nat.add_zero, Nat.mul_one, eb, e3]
    refine (meets_of t e).look ?_
    try simp only [xNn_some, add_mk, cell_mk, upd_at, del_at, if_true, if_false, Option.bind_some, List.getElem?_toArray, List.getElem?_cons_succ, List.getElem?_cons_zero, oI_some, oS_some, oM_some, oB_some, oP_some, oT_some, xIdx_some, Nat.zero_add, Nat.add_zero, Nat.mul_one]
    exact hJ
  · exact ⟨by simp only [Th.takes, hc, if_true], l⟩
  have h0 := hc
  try simp only [xNn_some, add_mk, cell_mk, upd_at, del_at, if_true, if_false, Option.bind_some, List.getElem?_toArray, List.getElem?_cons_succ, List.getElem?_cons_zero, oI_some, oS_some, oM_some, oB_some, oP_some, oT_some, xIdx_some, Nat.zero_add, Nat.add_zero, Nat.mul_one, eb, e3]
  refine ⟨fun hc => ?_, fun hc => ?_⟩
  · have hc := beq_iff_eq.1 hc
    try simp only [xNn_some, add_mk, cell_mk, upd_at, del_at, if_true, if_false, Option.bind_some, List.getElem?_toArray, List.getElem?_cons_succ, List.getElem?_cons_zero, oI_some, oS_some, oM_some, oB_some, oP_some, oT_some, xIdx_some, Nat.zero_add, Nat.add_zero, Nat.mul_one, eb, e3]
    refine (meets_waits t e).look ?_
    try simp only [xNn_some, add_mk, cell_mk, upd_at, del_at, if_true, if_false, Option.bind_some, List.getElem?_toArray, List.getElem?_cons_succ, List.getElem?_cons_zero, oI_some, oS_some, oM_some, oB_some, oP_some, oT_some, xIdx_some, Nat.zero_add, Nat.add_zero, Nat.mul_one]
    exact ⟨by unfold Th.takes; rw [if_neg (by simp [h0]), if_pos hc], l⟩
  have h4 : t.op.kind ≠ 4 := by simpa using hc
  have two : ∀ K : Bool → PH → Prop, K (t.op.kind == 5 || t.op.kind == 6) h1 → xIte (t.op.kind == 5) (fun J => J (t.op.kind == 5) h1) (fun J => J (t.op.kind == 6) h1) K := by
    intro K hK
    refine ⟨fun hc => ?_, fun hc => ?_⟩
    · rw [hc] at hK ⊢; exact hK
    · rw [hc] at hK; exact hK
  refine two _ ⟨fun hc => ?_, fun hc => ?_⟩
  · simp only [Bool.or_eq_true, beq_iff_eq] at hc
    try simp only [xNn_some, add_mk, cell_mk, upd_at, del_at, if_true, if_false, Option.bind_some, List.getElem?_toArray, List.getElem?_cons_succ, List.getElem?_cons_zero, oI_some, oS_some, oM_some, oB_some, oP_some, oT_some, xIdx_some, Nat.zero_add, Nat.add_zero, Nat.mul_one, eb, e3]
    refine (meets_tells t e).look ?_
    try simp only [xNn_some, add_mk, cell_mk, upd_at, del_at, if_true, if_false, Option.bind_some, List.getElem?_toArray, List.getElem?_cons_succ, List.getElem?_cons_zero, oI_some, oS_some, oM_some, oB_some, oP_some, oT_some, xIdx_some, Nat.zero_add, Nat.add_zero, Nat.mul_one]
    exact ⟨by unfold Th.takes; rw [if_neg (by simp [h0]), if_neg h4, if_pos hc], l⟩
  have h56 : ¬(t.op.kind = 5 ∨ t.op.kind = 6) := by simpa using hc
  refine xDraw_self ?_
  try simp only [xNn_some, add_mk, cell_mk, upd_at, del_at, if_true, if_false, Option.bind_some, List.getElem?_toArray, List.getElem?_cons_succ, List.getElem?_cons_zero, oI_some, oS_some, oM_some, oB_some, oP_some, oT_some, xIdx_some, Nat.zero_add, Nat.add_zero, Nat.mul_one, eb, e3]
  refine xSc_and (e.kind == commitOf t.op.kind) (fun _ J hJ => ?_) ⟨by unfold Th.takes; rw [if_neg (by simp [h0]), if_neg h4, if_neg h56], l⟩
  refine (meets_commitOf _).look ?_
  try simp only [xNn_some, add_mk, cell_mk, upd_at, del_at, if_true, if_false, Option.bind_some, List.getElem?_toArray, List.getElem?_cons_succ, List.getElem?_cons_zero, oI_some, oS_some, oM_some, oB_some, oP_some, oT_some, xIdx_some, Nat.zero_add, Nat.add_zero, Nat.mul_one]
  exact ⟨PH.le_refl _, hJ⟩

def toldV (t : Th) : Value := .tuple #[.int .i64 t.told.1, .int .i64 t.told.2.1, .bool t.told.2.2]

theorem meets_told {h : PH} (t : Th) : Meets Try.prog 73 #[thV t] h fun v h' => v = toldV t ∧ h' = h := by
  apply Meets.same
  apply P_ghost_thread_told_of
  unfold P_ghost_thread_told
  intro b hb
  have l : h.le _ := PH.le_upd (O := .cells #[.int .i64 t.op.kind, .int .i64 t.op.obj, .int .i64 t.op.arg, .int .i64 t.calls, .bool t.opn, .int .i64 t.many, .int .i64 t.last.kind, .int .i64 t.last.thread, .int .i64 t.last.obj, .int .i64 t.last.arg, .int .i64 t.last.err] 147 (0, 0)) hb
  have eb := PH.upd_same h b (.cells #[.int .i64 t.op.kind, .int .i64 t.op.obj, .int .i64 t.op.arg, .int .i64 t.calls, .bool t.opn, .int .i64 t.many, .int .i64 t.last.kind, .int .i64 t.last.thread, .int .i64 t.last.obj, .int .i64 t.last.arg, .int .i64 t.last.err] 147 (0, 0))
  generalize h.upd b (.cells #[.int .i64 t.op.kind, .int .i64 t.op.obj, .int .i64 t.op.arg, .int .i64 t.calls, .bool t.opn, .int .i64 t.many, .int .i64 t.last.kind, .int .i64 t.last.thread, .int .i64 t.last.obj, .int .i64 t.last.arg, .int .i64 t.last.err] 147 (0, 0)) = h1 at l eb ⊢
  simp only [xNn_some, add_mk, cell_mk, upd_at, del_at, if_true, if_false, Option.bind_some, List.getElem?_toArray, List.getElem?_cons_succ, List.getElem?_cons_zero, oI_some, oS_some, oM_some, oB_some, oP_some, oT_some, xIdx_some, Nat.zero_add, Nat.add_zero, Nat.mul_one, eb, xBlk]
  refine xSc_or (t.many == 0) (fun _ J hJ => hJ) ⟨fun hc => ?_, fun hc => ?_⟩
  · exact ⟨by simp only [toldV, Th.told, hc, if_true], l⟩
  have h0 := hc
  refine xDraw_self ?_
  try simp only [xNn_some, add_mk, cell_mk, upd_at, del_at, if_true, if_false, Option.bind_some, List.getElem?_toArray, List.getElem?_cons_succ, List.getElem?_cons_zero, oI_some, oS_some, oM_some, oB_some, oP_some, oT_some, xIdx_some, Nat.zero_add, Nat.add_zero, Nat.mul_one, eb]
  refine (meets_commitOf _).look ?_
  try simp only [xNn_some, add_mk, cell_mk, upd_at, del_at, if_true, if_false, Option.bind_some, List.getElem?_toArray, List.getElem?_cons_succ, List.getElem?_cons_zero, oI_some, oS_some, oM_some, oB_some, oP_some, oT_some, xIdx_some, Nat.zero_add, Nat.add_zero, Nat.mul_one, eb]
  refine ⟨PH.le_refl _, ⟨fun hc => ?_, fun hc => ?_⟩⟩
  · have hc := beq_iff_eq.1 hc
    refine xDraw_self ?_
    try simp only [xNn_some, add_mk, cell_mk, upd_at, del_at, if_true, if_false, Option.bind_some, List.getElem?_toArray, List.getElem?_cons_succ, List.getElem?_cons_zero, oI_some, oS_some, oM_some, oB_some, oP_some, oT_some, xIdx_some, Nat.zero_add, Nat.add_zero, Nat.mul_one, eb]
    refine xSc_or (t.last.kind == 4 && t.last.err != 0) (fun _ J hJ => xSc_and (t.last.err != 0) (fun _ J hJ => hJ) hJ) ⟨?_, l⟩
    unfold toldV Th.told; rw [if_neg (by simp [h0]), if_pos hc]
  have h4 : t.op.kind ≠ 4 := by simpa using hc
  refine ⟨fun hc => ?_, fun hc => ?_⟩
  · have hc := beq_iff_eq.1 hc
    refine xDraw_self ?_
    try simp only [xNn_some, add_mk, cell_mk, upd_at, del_at, if_true, if_false, Option.bind_some, List.getElem?_toArray, List.getElem?_cons_succ, List.getElem?_cons_zero, oI_some, oS_some, oM_some, oB_some, oP_some, oT_some, xIdx_some, Nat.zero_add, Nat.add_zero, Nat.mul_one, eb]
    refine ⟨?_, l⟩
    unfold toldV Th.told; rw [if_neg (by simp [h0]), if_neg h4, if_pos hc]
  have h6 : t.op.kind ≠ 6 := by simpa using hc
  have three : ∀ K : Bool → PH → Prop, K (t.op.kind == 5 || (t.op.kind == 7 || t.op.kind == 8)) h1 → xIte (t.op.kind == 5) (fun J => J (t.op.kind == 5) h1) (fun J => xIte (t.op.kind == 7) (fun J => J (t.op.kind == 7) h1) (fun J => J (t.op.kind == 8) h1) (fun x h' => J x h')) K := by
    intro K hK
    refine ⟨fun hc => ?_, fun hc => ⟨fun hc' => ?_, fun hc' => ?_⟩⟩
    · rw [hc] at hK ⊢; exact hK
    · rw [hc, hc'] at hK; rw [hc']; exact hK
    · rw [hc, hc'] at hK; exact hK
  refine three _ ⟨fun hc => ?_, fun hc => ?_⟩
  · simp only [Bool.or_eq_true, beq_iff_eq] at hc
    refine xDraw_self ?_
    try simp only [xNn_some, add_mk, cell_mk, upd_at, del_at, if_true, if_false, Option.bind_some, List.getElem?_toArray, List.getElem?_cons_succ, List.getElem?_cons_zero, oI_some, oS_some, oM_some, oB_some, oP_some, oT_some, xIdx_some, Nat.zero_add, Nat.add_zero, Nat.mul_one, eb]
    refine ⟨?_, l⟩
    unfold toldV Th.told; rw [if_neg (by simp [h0]), if_neg h4, if_neg h6, if_pos hc]
  have h578 : ¬(t.op.kind = 5 ∨ t.op.kind = 7 ∨ t.op.kind = 8) := by simpa using hc
  refine xDraw_self ?_
  try simp only [xNn_some, add_mk, cell_mk, upd_at, del_at, if_true, if_false, Option.bind_some, List.getElem?_toArray, List.getElem?_cons_succ, List.getElem?_cons_zero, oI_some, oS_some, oM_some, oB_some, oP_some, oT_some, xIdx_some, Nat.zero_add, Nat.add_zero, Nat.mul_one, eb]
  refine ⟨?_, l⟩
  unfold toldV Th.told; rw [if_neg (by simp [h0]), if_neg h4, if_neg h6, if_neg h578]

def enI (e : En) : List Int := [e.kind, e.thread, e.number, e.op.kind, e.op.obj, e.op.arg, e.event.kind, e.event.thread, e.event.obj, e.event.arg, e.event.err, e.value, e.err]
theorem bare1 (e : En) (hc : e.kind = 1) : [e.kind, e.thread, e.number, e.op.kind, e.op.obj, e.op.arg, 0, 0, 0, 0, 0, 0, 0] = enI e ↔ e.bare = true := by
  simp [En.bare, hc, enI]; omega
theorem bare2 (e : En) (hc : e.kind = 2) : [e.kind, e.event.thread, 0, 0, 0, 0, e.event.kind, e.event.thread, e.event.obj, e.event.arg, e.event.err, 0, 0] = enI e ↔ e.bare = true := by
  simp [En.bare, hc, enI]; omega
theorem bare3 (e : En) (hc : e.kind = 3) : [e.kind, e.thread, e.number, 0, 0, 0, 0, 0, 0, 0, 0, e.value, e.err] = enI e ↔ e.bare = true := by
  simp [En.bare, hc, enI]; omega

theorem meets_isBare {h : PH} (e : En) : Meets Try.prog 70 #[enV e] h fun v h' => v = .bool e.bare ∧ h' = h := by
  apply Meets.same
  apply P_ghost_isBare_of
  unfold P_ghost_isBare
  intro b hb
  have l : h.le _ := PH.le_upd (O := .cells #[.int .i64 e.kind, .int .i64 e.thread, .int .i64 e.number, .int .i64 e.op.kind, .int .i64 e.op.obj, .int .i64 e.op.arg, .int .i64 e.event.kind, .int .i64 e.event.thread, .int .i64 e.event.obj, .int .i64 e.event.arg, .int .i64 e.event.err, .int .i64 e.value, .int .i64 e.err] 90 (0, 0)) hb
  have eb := PH.upd_same h b (.cells #[.int .i64 e.kind, .int .i64 e.thread, .int .i64 e.number, .int .i64 e.op.kind, .int .i64 e.op.obj, .int .i64 e.op.arg, .int .i64 e.event.kind, .int .i64 e.event.thread, .int .i64 e.event.obj, .int .i64 e.event.arg, .int .i64 e.event.err, .int .i64 e.value, .int .i64 e.err] 90 (0, 0))
  generalize h.upd b (.cells #[.int .i64 e.kind, .int .i64 e.thread, .int .i64 e.number, .int .i64 e.op.kind, .int .i64 e.op.obj, .int .i64 e.op.arg, .int .i64 e.event.kind, .int .i64 e.event.thread, .int .i64 e.event.obj, .int .i64 e.event.arg, .int .i64 e.event.err, .int .i64 e.value, .int .i64 e.err] 90 (0, 0)) = h1 at l eb ⊢
  simp only [xNn_some, add_mk, cell_mk, upd_at, del_at, if_true, if_false, Option.bind_some, List.getElem?_toArray, List.getElem?_cons_succ, List.getElem?_cons_zero, oI_some, oS_some, oM_some, oB_some, oP_some, oT_some, xIdx_some, Nat.zero_add, Nat.add_zero, Nat.mul_one, eb, xBlk]
  intro b3 hb3
  have n3 : b ≠ b3 := ne_of_known eb hb3
  refine xSt_mk (PH.upd_same _ _ _) rfl (by decide) (by simp [oneCell]) (by simp) ?_
  rw [PH.upd_upd]
  simp only [xNn_some, add_mk, cell_mk, upd_at, del_at, if_true, if_false, Option.bind_some, List.getElem?_toArray, List.getElem?_cons_succ, List.getElem?_cons_zero, oI_some, oS_some, oM_some, oB_some, oP_some, oT_some, xIdx_some, Nat.zero_add, Nat.add_zero, Nat.mul_one, n3, eb, setN, List.setIfInBounds_toArray, List.set_cons_zero, List.set_cons_succ]
  have fin : ∀ (xs : List Int) (h2 : PH) (Q : Value → PH → Prop), xs.length = 13 → (xs = enI e ↔ e.bare = true) → h.le h2 → (∀ r, (r = e.bare) → Q (.bool r) h2) → xEq Try.prog 90 (.agg (xs.map (Value.int .i64)).toArray) (.agg ((enI e).map (Value.int .i64)).toArray) (fun r => Q (.bool r) h2) := by
    intro xs h2 Q hx hi l hQ
    obtain ⟨r, law, hr⟩ := eqLaw_list (P := Try.prog) (t := 90) 13 30 (by kernel_rfl) xs (enI e) hx rfl
    refine ⟨r, law, hQ r ?_⟩
    rw [Bool.eq_iff_iff, hr, hi]
  refine ⟨fun hc => ?_, fun hc => ?_⟩
  · have hc := beq_iff_eq.1 hc
    refine xDraw_del b3 ?_
    try simp only [xNn_some, add_mk, cell_mk, upd_at, del_at, if_true, if_false, Option.bind_some, List.getElem?_toArray, List.getElem?_cons_succ, List.getElem?_cons_zero, oI_some, oS_some, oM_some, oB_some, oP_some, oT_some, xIdx_some, Nat.zero_add, Nat.add_zero, Nat.mul_one, n3, eb, setN, List.setIfInBounds_toArray, List.set_cons_zero, List.set_cons_succ]
    refine xSt_mk (PH.upd_same _ _ _) rfl (by decide) (by simp [oneCell]) (by simp) ?_
    refine ⟨PH.del_le_upd (by first | exact PH.del_le _ _ | exact PH.del_le_upd (PH.del_le _ _)), ?_⟩
    refine xSt_mk (PH.upd_same _ _ _) rfl (by decide) (by simp [oneCell]) (by simp) ?_
    simp only [PH.upd_upd]
    simp only [xNn_some, add_mk, cell_mk, upd_at, del_at, if_true, if_false, Option.bind_some, List.getElem?_toArray, List.getElem?_cons_succ, List.getElem?_cons_zero, oI_some, oS_some, oM_some, oB_some, oP_some, oT_some, xIdx_some, Nat.zero_add, Nat.add_zero, Nat.mul_one, n3, eb, setN, List.setIfInBounds_toArray, List.set_cons_zero, List.set_cons_succ]
    exact fin [e.kind, e.thread, e.number, e.op.kind, e.op.obj, e.op.arg, 0, 0, 0, 0, 0, 0, 0] _ (fun v h' => v = .bool e.bare ∧ h.le h') rfl (bare1 e hc) (PH.le_trans l (PH.le_upd hb3)) (fun r hr => ⟨by rw [hr], PH.le_trans l (PH.le_upd hb3)⟩)
  have h1 : e.kind ≠ 1 := by simpa using hc
  refine ⟨fun hc => ?_, fun hc => ?_⟩
  · have hc := beq_iff_eq.1 hc
    refine xDraw_del b3 ?_
    try simp only [xNn_some, add_mk, cell_mk, upd_at, del_at, if_true, if_false, Option.bind_some, List.getElem?_toArray, List.getElem?_cons_succ, List.getElem?_cons_zero, oI_some, oS_some, oM_some, oB_some, oP_some, oT_some, xIdx_some, Nat.zero_add, Nat.add_zero, Nat.mul_one, n3, eb, setN, List.setIfInBounds_toArray, List.set_cons_zero, List.set_cons_succ]
    refine xSt_mk (PH.upd_same _ _ _) rfl (by decide) (by simp [oneCell]) (by simp) ?_
    refine ⟨PH.del_le_upd (by first | exact PH.del_le _ _ | exact PH.del_le_upd (PH.del_le _ _)), ?_⟩
    refine xSt_mk (PH.upd_same _ _ _) rfl (by decide) (by simp [oneCell]) (by simp) ?_
    simp only [PH.upd_upd]
    simp only [xNn_some, add_mk, cell_mk, upd_at, del_at, if_true, if_false, Option.bind_some, List.getElem?_toArray, List.getElem?_cons_succ, List.getElem?_cons_zero, oI_some, oS_some, oM_some, oB_some, oP_some, oT_some, xIdx_some, Nat.zero_add, Nat.add_zero, Nat.mul_one, n3, eb, setN, List.setIfInBounds_toArray, List.set_cons_zero, List.set_cons_succ]
    exact fin [e.kind, e.event.thread, 0, 0, 0, 0, e.event.kind, e.event.thread, e.event.obj, e.event.arg, e.event.err, 0, 0] _ (fun v h' => v = .bool e.bare ∧ h.le h') rfl (bare2 e hc) (PH.le_trans l (PH.le_upd hb3)) (fun r hr => ⟨by rw [hr], PH.le_trans l (PH.le_upd hb3)⟩)
  have h2 : e.kind ≠ 2 := by simpa using hc
  refine ⟨fun hc => ?_, fun hc => ?_⟩
  · have hc := beq_iff_eq.1 hc
    refine xDraw_del b3 ?_
    try simp only [xNn_some, add_mk, cell_mk, upd_at, del_at, if_true, if_false, Option.bind_some, List.getElem?_toArray, List.getElem?_cons_succ, List.getElem?_cons_zero, oI_some, oS_some, oM_some, oB_some, oP_some, oT_some, xIdx_some, Nat.zero_add, Nat.add_zero, Nat.mul_one, n3, eb, setN, List.setIfInBounds_toArray, List.set_cons_zero, List.set_cons_succ]
    refine xSt_mk (PH.upd_same _ _ _) rfl (by decide) (by simp [oneCell]) (by simp) ?_
    refine ⟨PH.del_le_upd (by first | exact PH.del_le _ _ | exact PH.del_le_upd (PH.del_le _ _)), ?_⟩
    refine xSt_mk (PH.upd_same _ _ _) rfl (by decide) (by simp [oneCell]) (by simp) ?_
    refine ⟨PH.del_le_upd (by first | exact PH.del_le _ _ | exact PH.del_le_upd (PH.del_le _ _)), ?_⟩
    refine xSt_mk (PH.upd_same _ _ _) rfl (by decide) (by simp [oneCell]) (by simp) ?_
    simp only [PH.upd_upd]
    simp only [xNn_some, add_mk, cell_mk, upd_at, del_at, if_true, if_false, Option.bind_some, List.getElem?_toArray, List.getElem?_cons_succ, List.getElem?_cons_zero, oI_some, oS_some, oM_some, oB_some, oP_some, oT_some, xIdx_some, Nat.zero_add, Nat.add_zero, Nat.mul_one, n3, eb, setN, List.setIfInBounds_toArray, List.set_cons_zero, List.set_cons_succ]
    exact fin [e.kind, e.thread, e.number, 0, 0, 0, 0, 0, 0, 0, 0, e.value, e.err] _ (fun v h' => v = .bool e.bare ∧ h.le h') rfl (bare3 e hc) (PH.le_trans l (PH.le_upd hb3)) (fun r hr => ⟨by rw [hr], PH.le_trans l (PH.le_upd hb3)⟩)
  have h3 : e.kind ≠ 3 := by simpa using hc
  exact ⟨by unfold En.bare; rw [if_neg h1, if_neg h2, if_neg h3], PH.le_trans l (PH.le_upd hb3)⟩

theorem meets_may {h : PH} {l tb : Nat} {objects : Int} {n c : Nat} {m s : Value} (hl : h l = some (.cells #[.int .i64 objects, m, .slice (some ⟨tb, 0, none⟩) n c, s] 109 (0, 0))) (o : Oq) :
    Meets Try.prog 71 #[.pointer (some ⟨l, 0, none⟩), .agg #[.int .i64 o.kind, .int .i64 o.obj, .int .i64 o.arg]] h fun v h' => v = .bool (mayOp objects n o) ∧ h' = h := by
  apply Meets.same
  apply P_ghost_Log_may_of
  unfold P_ghost_Log_may
  intro b hb
  have n3 : l ≠ b := ne_of_known hl hb
  have le : h.le _ := PH.le_upd (O := .cells #[.int .i64 o.kind, .int .i64 o.obj, .int .i64 o.arg] 86 (0, 0)) hb
  refine xDraw_self ?_
  try simp only [xNn_some, add_mk, cell_mk, upd_at, del_at, if_true, if_false, Option.bind_some, List.getElem?_toArray, List.getElem?_cons_succ, List.getElem?_cons_zero, oI_some, oS_some, oM_some, oB_some, oP_some, oT_some, xIdx_some, Nat.zero_add, Nat.add_zero, Nat.mul_one, n3, hl]
  refine (meets_commitOf _).look ?_
  try simp only [xNn_some, add_mk, cell_mk, upd_at, del_at, if_true, if_false, Option.bind_some, List.getElem?_toArray, List.getElem?_cons_succ, List.getElem?_cons_zero, oI_some, oS_some, oM_some, oB_some, oP_some, oT_some, xIdx_some, Nat.zero_add, Nat.add_zero, Nat.mul_one, n3, hl]
  refine ⟨PH.le_refl _, ?_⟩
  refine xSc_or (decide (o.obj < 0)) (fun _ J hJ => hJ) ?_
  refine xSc_or (decide (o.obj ≥ objects)) (fun _ J hJ => hJ) ?_
  refine xSc_or (decide (o.arg < 0)) (fun _ J hJ => hJ) ⟨fun hc => ?_, fun hc => ?_⟩
  · exact ⟨by simp only [mayOp, hc, if_true], le⟩
  have h0 := hc
  try simp only [xNn_some, add_mk, cell_mk, upd_at, del_at, if_true, if_false, Option.bind_some, List.getElem?_toArray, List.getElem?_cons_succ, List.getElem?_cons_zero, oI_some, oS_some, oM_some, oB_some, oP_some, oT_some, xIdx_some, Nat.zero_add, Nat.add_zero, Nat.mul_one, n3, hl, xBlk]
  refine ⟨fun hc => ?_, fun hc => ?_⟩
  · have hc := beq_iff_eq.1 hc
    refine xDraw_self ?_
    try simp only [xNn_some, add_mk, cell_mk, upd_at, del_at, if_true, if_false, Option.bind_some, List.getElem?_toArray, List.getElem?_cons_succ, List.getElem?_cons_zero, oI_some, oS_some, oM_some, oB_some, oP_some, oT_some, xIdx_some, Nat.zero_add, Nat.add_zero, Nat.mul_one, n3, hl]
    exact ⟨by unfold mayOp; rw [if_neg (by simp [h0]), if_pos hc], le⟩
  have h9 : o.kind ≠ 9 := by simpa using hc
  refine ⟨fun hc => ?_, fun hc => ?_⟩
  · have hc := beq_iff_eq.1 hc
    exact ⟨by unfold mayOp; rw [if_neg (by simp [h0]), if_neg h9, if_pos hc], le⟩
  have h4 : o.kind ≠ 4 := by simpa using hc
  try simp only [xNn_some, add_mk, cell_mk, upd_at, del_at, if_true, if_false, Option.bind_some, List.getElem?_toArray, List.getElem?_cons_succ, List.getElem?_cons_zero, oI_some, oS_some, oM_some, oB_some, oP_some, oT_some, xIdx_some, Nat.zero_add, Nat.add_zero, Nat.mul_one, n3, hl]
  exact ⟨by unfold mayOp; rw [if_neg (by simp [h0]), if_neg h9, if_neg h4], le⟩

end Go.Gh

/-
  SX, part 17: rows of records, wherever; slices of records of one's own, appended to.
-/
set_option linter.unusedVariables false
namespace Go.Sx
open Go

/-- A type's zero value, cell by cell. -/
def zeroC (P : Program) (t : TypeId) : Array Value := match zeroOf P t with | some v => v.cells | none => #[]
@[simp] theorem add_zero' (a : Addr) : a.add 0 = a := by
  cases a with
  | mk b o s => cases s <;> simp [Addr.add]

section
variable {α : Type} (enc : α → List Value) (w : Nat)
/-- Records in a row, wherever. -/
structure RecsAt (h : PH) (a : Option Addr) (l : List α) : Prop where
  at_ : ∀ (i : Nat) x, l[i]? = some x → ∃ b, a = some b ∧ ∀ (j : Nat) v, (enc x)[j]? = some v → h.cell ((b.add (i * w)).add j) = some v
/-- A slice of records of one's own. -/
def RowIn (el : TypeId) (h : PH) (p : Option Addr) (n c : Nat) (l : List α) (S : List Nat) : Prop :=
  n = l.length ∧ ((l = [] ∧ p = none ∧ c = 0 ∧ S = []) ∨ ∃ b junk, p = some ⟨b, 0, none⟩ ∧ h b = some (.cells (recArr enc l junk) el (0, 0)) ∧ l.length ≤ c ∧ junk.length = (c - l.length) * w ∧ S = [b])
end
variable {α : Type} {enc : α → List Value} {w : Nat}
theorem RecsAt.le {h h' : PH} {a : Option Addr} {l : List α} (x : RecsAt enc w h a l) (le : h.le h') : RecsAt enc w h' a l := by
  refine ⟨fun i e he => ?_⟩
  obtain ⟨b, hb, hc⟩ := x.at_ i e he
  exact ⟨b, hb, fun j v hv => PH.cell_le le (hc j v hv)⟩
theorem RecsAt.take {h : PH} {a : Option Addr} {l : List α} (x : RecsAt enc w h a l) (n : Nat) : RecsAt enc w h a (l.take n) := by
  refine ⟨fun i e he => x.at_ i e ?_⟩
  rw [List.getElem?_take] at he
  split at he
  · exact he
  · cases he
theorem RowIn.nil (el : TypeId) (h : PH) : RowIn enc w el h none 0 0 ([] : List α) [] := ⟨rfl, .inl ⟨rfl, rfl, rfl, rfl⟩⟩
theorem RowIn.of {el : TypeId} {h h' : PH} {p : Option Addr} {n c : Nat} {l : List α} {S : List Nat} (i : RowIn enc w el h p n c l S) (e : ∀ b ∈ S, h' b = h b) : RowIn enc w el h' p n c l S := by
  obtain ⟨rfl, ⟨a, b, c, d⟩ | ⟨b, junk, a, d, e1, f, g⟩⟩ := i
  · exact ⟨rfl, .inl ⟨a, b, c, d⟩⟩
  · exact ⟨rfl, .inr ⟨b, junk, a, (e b (by simp [g])).trans d, e1, f, g⟩⟩
theorem RowIn.known {el : TypeId} {h : PH} {p : Option Addr} {n c : Nat} {l : List α} {S : List Nat} (i : RowIn enc w el h p n c l S) : ∀ b ∈ S, ∃ O, h b = some O := by
  obtain ⟨rfl, ⟨a, b, c, d⟩ | ⟨b, junk, a, d, e1, f, g⟩⟩ := i
  · intro b hb; subst d; cases hb
  · intro x hx; subst g; simp only [List.mem_singleton] at hx; subst hx; exact ⟨_, d⟩
theorem RowIn.le {el : TypeId} {h h' : PH} {p : Option Addr} {n c : Nat} {l : List α} {S : List Nat} (i : RowIn enc w el h p n c l S) (le : h.le h') : RowIn enc w el h' p n c l S :=
  i.of fun b hb => by obtain ⟨O, hO⟩ := i.known b hb; rw [hO]; exact le _ _ hO
theorem RowIn.ext {el : TypeId} {h h' : PH} {p : Option Addr} {n c : Nat} {l : List α} {S T : List Nat} (i : RowIn enc w el h p n c l S) (x : Ext T h h') (d : ∀ b ∈ S, b ∉ T) : RowIn enc w el h' p n c l S :=
  i.of fun b hb => by obtain ⟨O, hO⟩ := i.known b hb; rw [hO]; exact x _ _ hO (d b hb)
theorem RowIn.le_cap {el : TypeId} {h : PH} {p : Option Addr} {n c : Nat} {l : List α} {S : List Nat} (i : RowIn enc w el h p n c l S) : n ≤ c := by
  obtain ⟨rfl, ⟨rfl, b, rfl, d⟩ | ⟨b, junk, a, d, e1, f, g⟩⟩ := i
  · simp
  · exact e1
theorem RowIn.recs {el : TypeId} {h : PH} {p : Option Addr} {n c : Nat} {l : List α} {S : List Nat} (hw : ∀ a, (enc a).length = w) (i : RowIn enc w el h p n c l S) : RecsAt enc w h p l := by
  refine ⟨fun k x hx => ?_⟩
  obtain ⟨rfl, ⟨rfl, b, c, d⟩ | ⟨b, junk, rfl, d, e1, f, g⟩⟩ := i
  · cases hx
  · refine ⟨_, rfl, fun j v hv => ?_⟩
    have hj : j < w := by
      have := (List.getElem?_eq_some_iff.1 hv).1
      rwa [hw] at this
    rw [add_mk, add_mk, cellAt d, Nat.zero_add, rec_get hw x hx j hj]
    exact hv
theorem recArr_snoc (l : List α) (x : α) (junk : List Value) : (l.map enc).flatten ++ enc x ++ junk = ((l ++ [x]).map enc).flatten ++ junk := by simp
/-- One is appended. -/
theorem RowIn.app {el : TypeId} {bytes : Nat} {h : PH} {p : Option Addr} {n c : Nat} {l : List α} {S : List Nat} {sb : Nat} {x : α} {fz : Nat × Nat} {el' : TypeId} {K : Option Addr → Nat → Nat → PH → Prop} (hw : ∀ a, (enc a).length = w) (ho : ∀ v ∈ enc x, oneCell v = true)
    (i : RowIn enc w el h p n c l S) (hs : h sb = some (.cells (enc x).toArray el' fz)) (hl : (2 * (l.length + 1) + 192) * bytes ≤ 2 ^ 48)
    (k : ∀ p' n' c' h' S', RowIn enc w el h' p' n' c' (l ++ [x]) S' → Ext S h h' → (∀ b ∈ S', b ∈ S ∨ h b = none) → K p' n' c' h') : xApp h el w bytes p n c (.slice (some ⟨sb, 0, none⟩) 1 1) K := by
  have src : srcCells h w (.slice (some ⟨sb, 0, none⟩) 1 1) (enc x) 1 := by
    refine ⟨rfl, by rw [hw]; omega, fun i hi => ?_⟩
    rw [add_mk, cellAt hs, Nat.zero_add, List.getElem?_toArray]
  have lf : ∀ (l : List α), ((l.map enc).flatten).length = l.length * w := by
    intro l
    induction l with
    | nil => simp
    | cons a l ih => simp only [List.map_cons, List.flatten_cons, List.length_append, ih, hw, List.length_cons, Nat.add_mul]; omega
  obtain ⟨rfl, ⟨rfl, rfl, rfl, rfl⟩ | ⟨b, junk, rfl, hb, hc, hj, rfl⟩⟩ := i
  · refine ⟨_, 1, src, ho, by simpa using hl, rfl, rfl, fun h => absurd h (by decide), fun _ b cap' junk nb hc hj => ?_⟩
    refine k _ _ _ _ [b] ⟨rfl, .inr ⟨b, junk, rfl, (PH.upd_same _ _ _).trans (by simp [recArr]), hc, by simpa using hj, rfl⟩⟩ ((Ext.refl [] h).upd_new nb) (fun y hy => ?_)
    simp only [List.mem_singleton] at hy
    subst hy; exact .inr nb
  · refine ⟨_, 1, src, ho, hl, (l.map enc).flatten, junk, rfl, hb, lf l, hj, hc, fun b' cap' junk' nb hc' hj' => ?_⟩
    refine k _ _ _ _ [b'] ⟨by simp, .inr ⟨b', junk', rfl, ?_, by simpa using hc', by simpa using hj', rfl⟩⟩ ?_ ?_
    · rw [PH.upd_same, recArr_snoc]; rfl
    · intro y O hy hm
      have h1 : y ≠ b := fun e => hm (by simp [e])
      by_cases e : y = b'
      · subst e
        rw [del_at, if_neg h1] at nb
        rw [nb] at hy; cases hy
      · rw [PH.upd_ne _ _ e, del_at, if_neg h1]; exact hy
    · intro y hy
      simp only [List.mem_singleton] at hy
      subst hy
      rw [del_at] at nb
      split at nb
      · rename_i e; exact .inl (by simp [e])
      · exact .inr nb

theorem setW_all : ∀ (vs pre c : List Value), c.length = vs.length → setW (pre ++ c) pre.length vs = pre ++ vs := by
  intro vs
  induction vs with
  | nil => intro pre c h; simp at h; subst h; rfl
  | cons v vs ih =>
    intro pre c h
    cases c with
    | nil => cases h
    | cons x c =>
      simp only [setW]
      rw [List.set_append_right _ _ (Nat.le_refl _), Nat.sub_self, List.set_cons_zero]
      have := ih (pre ++ [v]) c (by simpa using h)
      simpa [List.length_append] using this
/-- A whole row written anew. -/
theorem setN_all (c : List Value) (vs : List Value) (h : c.length = vs.length) : setN c.toArray 0 vs = vs.toArray := by
  rw [setN_setW]
  congr 1
  exact setW_all vs [] c h
/-- A box that is made and written. -/
theorem xBox {h : PH} {O0 : Array Value} {c : List Value} {el : TypeId} {n : Nat} {vs : List Value} {K : Nat → PH → Prop} (hc : O0 = c.toArray) (hl : c.length = vs.length) (hn : vs.length = n) (hz : n ≠ 0) (ho : ∀ v ∈ vs, oneCell v = true)
    (k : ∀ b h1, h.le h1 → h b = none → h1 b = some (.cells vs.toArray el (0, 0)) → K b h1) : xNew h (.cells O0 el (0, 0)) fun b h1 => xSt n h1 ⟨b, 0, none⟩ vs (K b) := by
  subst hc
  intro b nb
  refine xSt_mk (PH.upd_same _ _ _) hn hz ho (by simp [hl, hn]) ?_
  rw [PH.upd_upd, setN_all _ _ hl]
  exact k b _ (PH.le_upd nb) nb (PH.upd_same _ _ _)

theorem xBlk_split1 {α : Type} {f : (α → PH → Prop) → Prop} {K : α → PH → Prop} (I : α → PH → Prop) (hK : ∀ a h, I a h → K a h) (hf : ∀ K' : α → PH → Prop, (∀ a h, I a h → K' a h) → f K') : xBlk f K := hf K hK
theorem xBlk_split2 {α β : Type} {f : (α → β → PH → Prop) → Prop} {K : α → β → PH → Prop} (I : α → β → PH → Prop) (hK : ∀ a b h, I a b h → K a b h) (hf : ∀ K' : α → β → PH → Prop, (∀ a b h, I a b h → K' a b h) → f K') : xBlk f K := hf K hK
theorem xBlk_split3 {α β γ : Type} {f : (α → β → γ → PH → Prop) → Prop} {K : α → β → γ → PH → Prop} (I : α → β → γ → PH → Prop) (hK : ∀ a b c h, I a b c h → K a b c h) (hf : ∀ K' : α → β → γ → PH → Prop, (∀ a b c h, I a b c h → K' a b c h) → f K') : xBlk f K := hf K hK

end Go.Sx
