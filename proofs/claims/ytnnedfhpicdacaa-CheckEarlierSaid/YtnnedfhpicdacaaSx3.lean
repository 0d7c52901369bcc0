/-
  SX, part 3: the operations that only read: soundness.
-/
import Derived.Test.YtnnedfhpicdacaaSx2
namespace Go.Sx
open Go

theorem cellsOf_info {P : Program} {t : TypeId} (h : P.cellsOf t ≠ 0) : (P.info? t).isSome = true := by
  unfold Program.cellsOf at h
  cases hi : P.info? t with
  | none => simp [hi] at h
  | some i => rfl
theorem underlying_info {P : Program} {t : TypeId} {d : TypeDesc} (h : P.underlying t = some d) : (P.info? t).isSome = true := by
  unfold Program.underlying at h
  cases hi : P.info? t with
  | none => simp [hi] at h
  | some i => rfl

theorem reads_isAgg {P : Program} {h : PH} {t : TypeId} {d : TypeDesc} (hd : P.underlying t = some d) :
    Reads P (isAgg t) h (match d with | .struct _ | .array _ _ => true | _ => false) := by
  refine (reads_underlying hd).bind ?_
  cases d <;> exact Reads.pure _

theorem reads_cellsFrom {P : Program} {h : PH} {a : Addr} {vs : List Value} : ∀ (n i : Nat) (acc : Array Value), (∀ j, j < n → h.cell (a.add (i + j)) = vs[i + j]?) → i + n = vs.length →
    Reads P (loadCellsFrom a i n acc) h (acc ++ (vs.drop i).toArray)
  | 0, i, acc, _, hn => by
    have : vs.drop i = [] := List.drop_eq_nil_of_le (by omega)
    rw [this]; simpa [loadCellsFrom] using Reads.pure acc
  | n + 1, i, acc, hc, hn => by
    have hlt : i < vs.length := by omega
    have h0 := hc 0 (by omega)
    simp only [Nat.add_zero] at h0
    have h0' : h.cell (a.add i) = some vs[i] := by rw [h0]; simp [hlt]
    refine (Reads.load h0').bind ?_
    have := reads_cellsFrom (P := P) (h := h) (a := a) (vs := vs) n (i + 1) (acc.push vs[i]) (fun j hj => by have := hc (j + 1) (by omega); rwa [show i + (j + 1) = i + 1 + j from by omega] at this) (by omega)
    have e : acc ++ (vs.drop i).toArray = acc.push vs[i] ++ (vs.drop (i + 1)).toArray := by
      rw [List.drop_eq_getElem_cons hlt]
      apply Array.ext'
      simp
    rw [e]; exact this

theorem reads_cells {P : Program} {h : PH} {a : Addr} {vs : List Value} (hc : ∀ j, j < vs.length → h.cell (a.add j) = vs[j]?) : Reads P (loadCells a vs.length) h vs.toArray := by
  have := reads_cellsFrom (P := P) (h := h) (a := a) (vs := vs) vs.length 0 #[] (by simpa using hc) (by simp)
  simpa [loadCells] using this

theorem reads_loadVar_agg {P : Program} {h : PH} {t : TypeId} {a : Addr} {vs : List Value} (hd : (∃ fs, P.underlying t = some (.struct fs)) ∨ ∃ n e, P.underlying t = some (.array n e))
    (hn : vs.length = P.cellsOf t) (hc : ∀ j, j < vs.length → h.cell (a.add j) = vs[j]?) : Reads P (loadVar t a) h (.agg vs.toArray) := by
  have hi : Reads P (isAgg t) h true := by
    rcases hd with ⟨fs, hd⟩ | ⟨n, e, hd⟩
    · exact reads_isAgg hd
    · exact reads_isAgg hd
  have hinf : (P.info? t).isSome = true := by
    rcases hd with ⟨fs, hd⟩ | ⟨n, e, hd⟩ <;> exact underlying_info hd
  refine hi.bind ?_
  simp only [if_true]
  refine (reads_sizeOf hinf).bind ?_
  rw [← hn]
  exact (reads_cells hc).bind (Reads.pure _)

theorem reads_loadVar_one {P : Program} {h : PH} {t : TypeId} {a : Addr} {v : Value} {d : TypeDesc} (hd : P.underlying t = some d) (hs : ∀ fs, d ≠ .struct fs) (ha : ∀ n e, d ≠ .array n e)
    (hc : h.cell a = some v) : Reads P (loadVar t a) h v := by
  refine (reads_isAgg hd).bind ?_
  cases d <;> first | exact absurd rfl (hs _) | exact absurd rfl (ha _ _) | exact Reads.load hc

/-- A typed load is a load. -/
theorem oLoad_reads {P : Program} {h : PH} {t : TypeId} {a : Addr} {K : Value → Prop} (hk : oLoad (leafOf P t) h a K) (hu : (P.underlying t).isSome = true) : ∃ v, K v ∧ Reads P (loadVar t a) h v := by
  obtain ⟨d, hd⟩ := Option.isSome_iff_exists.1 hu
  have big : ((∃ fs, P.underlying t = some (.struct fs)) ∨ ∃ n e, P.underlying t = some (.array n e)) → oLoad (.big (P.cellsOf t)) h a K → ∃ v, K v ∧ Reads P (loadVar t a) h v := by
    rintro hd ⟨cs, hn, hc, hK⟩
    refine ⟨_, hK, ?_⟩
    have := reads_loadVar_agg (P := P) (h := h) (t := t) (a := a) (vs := cs.toList) hd (by simpa using hn) (fun j hj => by simpa using hc j (by simp at hj; omega))
    simpa using this
  have agg : ((∃ fs, P.underlying t = some (.struct fs)) ∨ ∃ n e, P.underlying t = some (.array n e)) → oLoad (if P.cellsOf t ≤ maxAgg then (match atsOf P 10 t with | some l => if l.length = P.cellsOf t then .agg l else .big (P.cellsOf t) | none => .big (P.cellsOf t)) else .big (P.cellsOf t)) h a K → ∃ v, K v ∧ Reads P (loadVar t a) h v := by
    intro hd hk
    split at hk
    · split at hk
      · split at hk
        · rename_i l _ hl
          obtain ⟨vs, hv, hc, hK⟩ := oRow_some hk
          exact ⟨_, hK, reads_loadVar_agg hd (hv.trans hl) (fun j hj => by have := hc j (by omega); simpa using this)⟩
        · exact big hd hk
      · exact big hd hk
    · exact big hd hk
  unfold leafOf at hk
  rw [hd] at hk
  cases d
  case struct fs => exact agg (.inl ⟨fs, hd⟩) hk
  case array n e => exact agg (.inr ⟨n, e, hd⟩) hk
  all_goals
    dsimp only [oLoad] at hk
    obtain ⟨v, hv, hK⟩ := oAt_some hk
    exact ⟨v, hK, reads_loadVar_one hd (by simp) (by simp) hv⟩

theorem reads_bound {P : Program} {h : PH} {k : IntKind} {i : Int} {y : Nat} {code : BoundsCode} (h0 : 0 ≤ i) (h1 : i ≤ y) : Reads P (Instr.sliceBound (.int k i) y code) h i.toNat := by
  show Reads P (if 0 ≤ i ∧ i ≤ y then Pure.pure i.toNat else _) h i.toNat
  rw [if_pos ⟨h0, h1⟩]; exact Reads.pure _

/-- The values of two bounds that may be there. -/
theorem optInt_none {x : Option Value} (h : optInt x = some none) : x = none := by
  cases x with
  | none => rfl
  | some v => cases v <;> simp [optInt] at h
theorem optInt_some {x : Option Value} {n : Int} (h : optInt x = some (some n)) : ∃ k, x = some (.int k n) := by
  cases x with
  | none => simp [optInt] at h
  | some v => cases v <;> simp [optInt] at h; subst h; exact ⟨_, rfl⟩

theorem reads_low {P : Program} {h : PH} {α : Type} {lo : Option Value} {l : Option Int} {m : Int} {y : Nat} {code : BoundsCode} (hl : optInt lo = some l) (h0 : 0 ≤ l.getD 0) (h1 : l.getD 0 ≤ m) (hy : m = y) (g : Nat → Sem α) (r : α)
    (hr : Reads P (g (l.getD 0).toNat) h r) : Reads P (match lo with | some v => Instr.sliceBound v y code >>= g | none => Pure.pure 0 >>= g) h r := by
  cases l with
  | none =>
    rw [optInt_none hl]
    exact (Reads.pure 0).bind hr
  | some n =>
    obtain ⟨k, rfl⟩ := optInt_some hl
    exact (reads_bound (by simpa using h0) (by simp at h1; omega)).bind hr

theorem reads_bounds {P : Program} {h : PH} {sl : Bool} {len cap : Nat} {lo hi : Option Value} {l m : Option Int} (hl : optInt lo = some l) (hm : optInt hi = some m)
    (h0 : 0 ≤ l.getD 0) (h1 : l.getD 0 ≤ m.getD len) (h2 : m.getD len ≤ cap) : Reads P (Instr.sliceBounds sl len cap lo hi none) h ((l.getD 0).toNat, (m.getD len).toNat, cap) := by
  unfold Instr.sliceBounds
  refine (Reads.pure cap).bind ?_
  cases m with
  | none =>
    rw [optInt_none hm]
    refine (Reads.pure len).bind ?_
    exact reads_low (m := len) hl h0 (by simpa using h1) rfl _ _ (by simpa using Reads.pure _)
  | some n =>
    obtain ⟨k, rfl⟩ := optInt_some hm
    simp only [Option.getD_some] at h1 h2
    refine (reads_bound (by omega) h2).bind ?_
    exact reads_low (m := n) hl h0 h1 (by omega) _ _ (Reads.pure _)

/-- The operation's own value. -/
theorem reads_value {P : Program} {h : PH} {s : Sem Value} {v : Value} (x : Reads P s h v) : Reads P (do pure (Next.value (← s)) : Sem Next) h (.value v) := x.bind (Reads.pure _)

def isEq : BinOp → Bool
  | .eql | .neq => true
  | _ => false
theorem reads_eql {P : Program} {o : Oper} {ρ : Operand → Value} {h : PH} {op : BinOp} {xt yt : TypeId} {x y : Operand} {v : Value} (ho : o.op = .binOp op xt x y yt) (_hop : isEq op = true)
    (hg : Reads P (eqGuard op xt x y (ρ x) (ρ y)) h ()) (hr : Reads P (binOp op xt (ρ x) (ρ y)) h v) : Reads P (execOp ρ o) h (.value v) := by
  unfold execOp; rw [ho]; simp only []
  exact reads_value (hg.bind hr)
theorem guard_agg {P : Program} {h : PH} {op : BinOp} {t : TypeId} {x y : Operand} {a b : Array Value} (hg : P.eqGuardType P.depth t = false) : Reads P (eqGuard op t x y (.agg a) (.agg b)) h () := by
  have he : op = .eql ∨ op = .neq ∨ (op matches .eql | .neq) = false := by cases op <;> simp
  apply Reads.of_val?
  unfold eqGuard
  rcases he with rfl | rfl | he
  · show val? P (if !P.eqGuardType P.depth t then Pure.pure () else _) = _
    rw [hg]; rfl
  · show val? P (if !P.eqGuardType P.depth t then Pure.pure () else _) = _
    rw [hg]; rfl
  · cases op <;> simp at he <;> rfl
def isDivSh : BinOp → Bool
  | .quo | .rem | .shl | .shr | .add => true
  | _ => false
theorem reads_arith {P : Program} {o : Oper} {ρ : Operand → Value} {h : PH} {op : BinOp} {xt yt : TypeId} {x y : Operand} {v : Value} (ho : o.op = .binOp op xt x y yt) (hop : isDivSh op = true)
    (hr : Reads P (binOp op xt (ρ x) (ρ y)) h v) : Reads P (execOp ρ o) h (.value v) := by
  unfold execOp; rw [ho]; simp only []
  refine reads_value (Reads.bind (v := ()) ?_ hr)
  unfold eqGuard
  cases op <;> simp [isDivSh] at hop <;> exact Reads.pure _

theorem reads_getObj0 {P : Program} {h : PH} {r : Nat} {es : Array MapEntry} {cl : Nat} (hr : h r = some (.map es cl)) : Reads P (getObj r) h (.map es cl) := fun W w st => by
  show Sem.run P (.getObj r .pure) w = _
  simp only [Sem.run, st.sh _ _ hr]

def lookVal (ok : Bool) (v : Option Value) (z : Value) : Value := match ok with
  | true => .tuple #[v.getD z, .bool v.isSome]
  | false => v.getD z
theorem reads_lookup {P : Program} {h : PH} {t key el : TypeId} {z k : Value} {m : Option Nat} {ok : Bool} {es : Array MapEntry} {Sh : Value → Prop} (ht : P.underlying t = some (.map key el)) (hz : zeroOf P el = some z) (law : KeyLaw P key Sh) (hS : Sh k)
    (hE : ∀ e ∈ es.toList, Sh (MapEntry.key e)) (hm : (∃ r cl, m = some r ∧ h r = some (.map es cl)) ∨ (m = none ∧ es = #[])) : Reads P (Instr.lookup t (.map m) k ok) h (lookVal ok (mapGet es k) z) := by
  have hz' : Reads P (zeroValue el) h z := by
    unfold zeroOf at hz
    cases hi : P.info? el with
    | none => rw [hi] at hz; cases hz
    | some i =>
      rw [hi] at hz
      apply Reads.of_val?
      show val? P (Sem.bind (match P.info? el with | some i => Pure.pure i | none => stuck "no such type") fun i => match i.zero with | some v => Pure.pure v | none => unsupported (.resourceLimit "a value of more than 2^22 cells")) = _
      rw [hi]
      have hz2 : i.zero = some z := hz
      show val? P (match i.zero with | some v => Pure.pure v | none => unsupported (.resourceLimit "a value of more than 2^22 cells")) = _
      rw [hz2]; rfl
  unfold Instr.lookup
  refine (reads_underlying ht).bind ?_
  simp only []
  have rest : Reads P (do
      Instr.checkKey es.isEmpty 10000 key k
      let (v, ok') ← match ← Instr.findKey key k es.toList with
        | some (_, v) => pure (v, true)
        | none => pure (← zeroValue el, false)
      pure (if ok then .tuple #[v, .bool ok'] else v)) h (lookVal ok (mapGet es k) z) := by
    refine Reads.bind (v := ()) (fun W w _ => law.check _ hS _ w) ?_
    refine Reads.bind (v := findE es.toList k 0) (fun W w _ => law.find _ _ hS hE w) ?_
    unfold mapGet lookVal
    cases findE es.toList k 0 with
    | none => cases ok <;> exact hz'.bind (Reads.pure _)
    | some p => cases ok <;> exact Reads.pure _
  rcases hm with ⟨r, cl, rfl, hr⟩ | ⟨rfl, rfl⟩
  · exact (reads_getObj0 hr).bind ((Reads.pure _).bind rest)
  · exact (Reads.pure _).bind rest

theorem fRaw_sound {P : Program} {o : Oper} {ρ : Operand → Value} {h : PH} {K : Value → Prop} (hk : fRaw P o ρ h K) : ∃ v, K v ∧ Reads P (execOp ρ o) h (.value v) := by
  have gen : (match val? P (execOp ρ o) with | some (.value v) => K v | _ => False) → ∃ v, K v ∧ Reads P (execOp ρ o) h (.value v) := by
    intro hk
    split at hk
    · rename_i v hv; exact ⟨v, hk, Reads.of_val? hv⟩
    · exact hk.elim
  unfold fRaw at hk
  split at hk
  · -- load
    rename_i t a ho
    split at hk
    · rename_i d p hd hp
      obtain ⟨v, hK, hr⟩ := oLoad_reads hk (by rw [hd]; rfl)
      refine ⟨v, hK, ?_⟩
      unfold execOp; rw [ho]; simp only []
      refine reads_value ?_
      unfold Instr.loadAt Instr.sureAddr; rw [hp]
      exact (Reads.pure p).bind hr
    · exact hk.elim
  · -- nilCheck
    rename_i x ho
    split at hk
    · rename_i p hp
      obtain ⟨a, rfl, hK⟩ := hk
      refine ⟨_, hK, ?_⟩
      unfold execOp; rw [ho]; simp only [hp]
      exact Reads.pure _
    · exact hk.elim
  · -- fieldAddr
    rename_i s x f ho
    split at hk
    · rename_i a fs hx hs
      split at hk
      · rename_i fd hfd
        split at hk
        · exact hk.elim
        · rename_i n hn
          refine ⟨_, hk, ?_⟩
          unfold execOp; rw [ho]; simp only []
          refine reads_value ?_
          unfold Instr.fieldAt
          refine (reads_underlying hs).bind ?_
          simp only [hfd]
          unfold Instr.sureAddr; rw [hx]
          refine (Reads.pure a).bind ?_
          unfold fieldPlace
          refine Reads.bind ((reads_sizeOf (cellsOf_info (by rw [hn]; omega))).bind ?_) (Reads.pure _)
          rw [hn]; simp only [Nat.add_one_ne_zero, if_false]
          exact Reads.pure _
      · exact hk.elim
    · exact hk.elim
  · -- indexAddr
    rename_i t x i ho
    split at hk
    · rename_i el base len cap k n ht hx hi
      split at hk
      · exact hk.elim
      rename_i hz
      obtain ⟨a, rfl, h0, h1, hK⟩ := hk
      refine ⟨_, hK, ?_⟩
      unfold execOp; rw [ho]; simp only []
      refine reads_value ?_
      unfold Instr.indexAt asIntOf; rw [hx, hi]
      refine (Reads.pure _).bind ?_
      refine (reads_underlying ht).bind ?_
      refine (Reads.pure _).bind ?_
      refine (reads_underlying ht).bind ?_
      refine (Reads.pure _).bind ?_
      have : 0 ≤ n ∧ n < len := ⟨h0, h1⟩
      show Reads P (if 0 ≤ n ∧ n < (len : Int) then _ else _) h _
      rw [if_pos this]
      exact (reads_sizeOf (cellsOf_info hz)).bind (Reads.pure _)
    · rename_i len el a k n ht hx hi
      split at hk
      · exact hk.elim
      rename_i hz
      obtain ⟨⟨h0, h1⟩, hK⟩ := hk
      refine ⟨_, hK, ?_⟩
      unfold execOp; rw [ho]; simp only []
      refine reads_value ?_
      unfold Instr.indexAt asIntOf; rw [hx, hi]
      refine (Reads.pure _).bind ?_
      refine (reads_underlying ht).bind ?_
      refine Reads.bind (v := (some a, len, el)) ?_ ?_
      · show Reads P (do pure (some (← Instr.sureAddr (.pointer (some a))), len, el)) h _
        exact (Reads.pure a).bind (Reads.pure _)
      refine (reads_underlying ht).bind ?_
      refine (Reads.pure _).bind ?_
      have : 0 ≤ n ∧ n < len := ⟨h0, h1⟩
      show Reads P (if 0 ≤ n ∧ n < (len : Int) then _ else _) h _
      rw [if_pos this]
      exact (reads_sizeOf (cellsOf_info hz)).bind (Reads.pure _)
    · exact hk.elim
  · -- index
    rename_i t x i ho
    split at hk
    · rename_i s k n ht hx hi
      obtain ⟨b, h0, hb, hK⟩ := hk
      refine ⟨_, hK, ?_⟩
      unfold execOp; rw [ho]; simp only []
      refine reads_value ?_
      unfold Instr.index asIntOf; rw [hx, hi]
      refine (Reads.pure _).bind ?_
      refine (reads_underlying ht).bind ?_
      simp only [h0, if_true, hb]
      exact Reads.pure _
    · exact hk.elim
  · -- slice
    rename_i t x lo hi ho
    split at hk
    · rename_i el base len cap l m ht hx hl hm
      split at hk
      · exact hk.elim
      rename_i hz
      obtain ⟨⟨h0, h1, h2⟩, hK⟩ := hk
      refine ⟨_, hK, ?_⟩
      unfold execOp; rw [ho]; simp only []
      refine reads_value ?_
      unfold Instr.sliceAt
      refine (reads_underlying ht).bind ?_
      simp only []
      unfold Instr.slice
      refine (reads_underlying ht).bind ?_
      rw [hx]; simp only []
      refine (reads_bounds hl hm h0 h1 h2).bind ?_
      exact (reads_sizeOf (cellsOf_info hz)).bind (Reads.pure _)
    · rename_i s l m ht hx hl hm
      obtain ⟨⟨h0, h1, h2⟩, hK⟩ := hk
      refine ⟨_, hK, ?_⟩
      unfold execOp; rw [ho]; simp only []
      refine reads_value ?_
      unfold Instr.sliceAt
      refine (reads_underlying ht).bind ?_
      simp only []
      unfold Instr.slice
      refine (reads_underlying ht).bind ?_
      rw [hx]; simp only []
      rw [if_neg (by simp)]
      refine (reads_bounds hl hm h0 h1 h2).bind ?_
      exact Reads.pure _
    · exact hk.elim
  · -- lookup
    rename_i t x ix ok ho
    split at hk
    · rename_i key el ht
      split at hk
      · rename_i z m hz hx
        have fin : ∀ (es : Array MapEntry) (v : Value), v = lookVal ok (mapGet es (ρ ix)) z → Reads P (Instr.lookup t (.map m) (ρ ix) ok) h v → Reads P (execOp ρ o) h (.value v) := by
          intro es v _ hr
          unfold execOp; rw [ho]; simp only []
          refine reads_value ?_
          rw [hx]; exact hr
        rcases hk with ⟨r, es, cl, Sh, rfl, hr, law, hS, hE, hk⟩ | ⟨rfl, Sh, law, hS, hk⟩
        · have hK := oVal_same hk
          exact ⟨_, by cases ok <;> exact hK, fin es _ rfl (reads_lookup ht hz law hS hE (.inl ⟨r, cl, rfl, hr⟩))⟩
        · have hK := oVal_same hk
          exact ⟨lookVal ok none z, by cases ok <;> exact hK, fin #[] _ rfl (reads_lookup ht hz law hS (by simp) (.inr ⟨rfl, rfl⟩))⟩
      · exact hk.elim
    · exact hk.elim
  · -- entry
    rename_i it ho
    split at hk
    · rename_i r hr
      obtain ⟨m, since, seen, last, es, e, stamp, h1, h2, h3, h4, hK⟩ := hk
      refine ⟨_, hK, ?_⟩
      unfold execOp; rw [ho]; simp only []
      refine reads_value ?_
      unfold Instr.entry
      rw [hr]; simp only []
      have g1 : Reads P (getObj r) h (.mapIter (some m) since seen last) := fun W w st => by
        show Sem.run P (.getObj r .pure) w = _
        simp only [Sem.run, st.sh _ _ h1]
      refine g1.bind ?_
      simp only [h2]
      refine (reads_getObj0 h3).bind ?_
      simp only [bne_self_eq_false, Bool.false_eq_true, if_false]
      rw [h4]
      exact Reads.pure _
    · exact hk.elim
  · -- extract
    rename_i t i ho
    split at hk
    · rename_i vs hx
      split at hk
      · rename_i v hv
        refine ⟨v, oVal_same hk, ?_⟩
        unfold execOp; rw [ho]; simp only []
        refine reads_value ?_
        unfold Instr.extract; rw [hx]; simp only [hv]
        exact Reads.pure _
      · exact hk.elim
    · exact hk.elim
  · -- len
    rename_i as ts ho
    split at hk
    · rename_i t x ht hx
      split at hk
      · rename_i k2 e2 m hu hr
        have hax : (as.map ρ)[0]? = some (ρ x) := by rw [Array.getElem?_map, hx]; rfl
        have fin : ∀ n : Int, Reads P (match m with | none => pure (goInt 0) | some r => do
              let .map entries _ ← getObj r | stuck "len: map expected"
              pure (goInt entries.size)) h (.int .i64 n) → Reads P (execOp ρ o) h (.value (.int .i64 n)) := by
          intro n hn
          unfold execOp; rw [ho]; simp only []
          refine Reads.bind (v := { target := .builtin .len ts o.type (as.map fun | .const _ => true | _ => false), args := as.map ρ }) (Reads.pure _) ?_
          show Reads P (do pure (Next.value (← Builtin.len_ ts o.type (as.map ρ)))) h _
          refine reads_value ?_
          unfold Builtin.len_
          rw [ht, hax]; simp only []
          refine (reads_underlying hu).bind ?_
          rw [hr]
          cases m <;> exact hn
        rcases hk with ⟨r, es, cl, rfl, hm, hK⟩ | ⟨rfl, hK⟩
        · exact ⟨_, hK, fin _ ((reads_getObj0 hm).bind (Reads.pure _))⟩
        · exact ⟨_, hK, fin _ (Reads.pure _)⟩
      · exact gen hk
    · exact hk.elim
  · -- binOp
    rename_i op xt x y yt ho
    split at hk
    · rename_i a b hx hy
      obtain ⟨r, law, hK⟩ := hk
      refine ⟨_, hK, ?_⟩
      refine reads_eql ho (by simp [isEq]) ?_ ?_
      · rw [hx, hy]; exact guard_agg law.guard
      · rw [hx, hy]
        show Reads P (do pure (Value.bool (← Op.equal xt (.agg a) (.agg b)))) h _
        exact Reads.bind (fun W w _ => law.run w) (Reads.pure _)
    · rename_i a b hx hy
      obtain ⟨r, law, hK⟩ := hk
      refine ⟨_, hK, ?_⟩
      refine reads_eql ho (by simp [isEq]) ?_ ?_
      · rw [hx, hy]; exact guard_agg law.guard
      · rw [hx, hy]
        show Reads P (do pure (Value.bool (!(← Op.equal xt (.agg a) (.agg b))))) h _
        exact Reads.bind (fun W w _ => law.run w) (Reads.pure _)
    · rename_i p hx hy
      split at hk
      · rename_i el hu
        refine ⟨_, hk, reads_eql ho (by simp [isEq]) ?_ ?_⟩
        · rw [hx, hy]; exact Reads.pure _
        · rw [hx, hy]
          show Reads P (do pure (Value.bool (← Op.equal xt (.pointer p) (.pointer none)))) h _
          refine Reads.bind (v := Option.isNone p) ?_ (Reads.pure _)
          show Reads P (Op.equalIn (9999 + 1) xt _ _) h _
          unfold Op.equalIn
          refine (reads_underlying hu).bind ?_
          cases p <;> exact Reads.pure _
      · exact hk.elim
    · rename_i p hx hy
      split at hk
      · rename_i el hu
        refine ⟨_, hk, reads_eql ho (by simp [isEq]) ?_ ?_⟩
        · rw [hx, hy]; exact Reads.pure _
        · rw [hx, hy]
          show Reads P (do pure (Value.bool (!(← Op.equal xt (.pointer p) (.pointer none))))) h _
          refine Reads.bind (v := Option.isNone p) ?_ (Reads.pure _)
          show Reads P (Op.equalIn (9999 + 1) xt _ _) h _
          unfold Op.equalIn
          refine (reads_underlying hu).bind ?_
          cases p <;> exact Reads.pure _
      · exact hk.elim
    · rename_i p l c l' c' hx hy
      split at hk
      · rename_i el hu
        refine ⟨_, hk, reads_eql ho (by simp [isEq]) ?_ ?_⟩
        · rw [hx, hy]; exact Reads.pure _
        · rw [hx, hy]
          show Reads P (do pure (Value.bool (← Op.equal xt (.slice p l c) (.slice none l' c')))) h _
          refine Reads.bind (v := Option.isNone p) ?_ (Reads.pure _)
          show Reads P (Op.equalIn (9999 + 1) xt _ _) h _
          unfold Op.equalIn
          refine (reads_underlying hu).bind ?_
          cases p <;> exact Reads.pure _
      · exact hk.elim
    · rename_i p l c l' c' hx hy
      split at hk
      · rename_i el hu
        refine ⟨_, hk, reads_eql ho (by simp [isEq]) ?_ ?_⟩
        · rw [hx, hy]; exact Reads.pure _
        · rw [hx, hy]
          show Reads P (do pure (Value.bool (!(← Op.equal xt (.slice p l c) (.slice none l' c'))))) h _
          refine Reads.bind (v := Option.isNone p) ?_ (Reads.pure _)
          show Reads P (Op.equalIn (9999 + 1) xt _ _) h _
          unfold Op.equalIn
          refine (reads_underlying hu).bind ?_
          cases p <;> exact Reads.pure _
      · exact hk.elim
    · rename_i p hx hy
      split at hk
      · rename_i k2 el hu
        refine ⟨_, hk, reads_eql ho (by simp [isEq]) ?_ ?_⟩
        · rw [hx, hy]; exact Reads.pure _
        · rw [hx, hy]
          show Reads P (do pure (Value.bool (← Op.equal xt (.map p) (.map none)))) h _
          refine Reads.bind (v := Option.isNone p) ?_ (Reads.pure _)
          show Reads P (Op.equalIn (9999 + 1) xt _ _) h _
          unfold Op.equalIn
          refine (reads_underlying hu).bind ?_
          cases p <;> exact Reads.pure _
      · exact hk.elim
    · rename_i p hx hy
      split at hk
      · rename_i k2 el hu
        refine ⟨_, hk, reads_eql ho (by simp [isEq]) ?_ ?_⟩
        · rw [hx, hy]; exact Reads.pure _
        · rw [hx, hy]
          show Reads P (do pure (Value.bool (!(← Op.equal xt (.map p) (.map none))))) h _
          refine Reads.bind (v := Option.isNone p) ?_ (Reads.pure _)
          show Reads P (Op.equalIn (9999 + 1) xt _ _) h _
          unfold Op.equalIn
          refine (reads_underlying hu).bind ?_
          cases p <;> exact Reads.pure _
      · exact hk.elim
    · rename_i a b hx hy
      obtain ⟨hz, hK⟩ := hk
      refine ⟨_, hK, reads_arith ho rfl ?_⟩
      rw [hx, hy]
      show Reads P (Op.stringOp .add a b) h _
      unfold Op.stringOp
      simp only []
      rw [if_neg (by simp [IntKind.max, IntKind.signed, IntKind.bits]; omega)]
      exact Reads.pure _
    · rename_i k a k' b hx hy
      split at hk
      · rename_i hkk
        obtain ⟨hz, hK⟩ := hk
        refine ⟨_, hK, reads_arith ho rfl ?_⟩
        rw [hx, hy]
        show Reads P (if k ≠ k' then _ else Op.intDiv .quo k a b) h _
        rw [if_neg (by simp [hkk])]
        unfold Op.intDiv
        rw [if_neg hz]; exact Reads.pure _
      · exact hk.elim
    · rename_i k a k' b hx hy
      split at hk
      · rename_i hkk
        obtain ⟨hz, hK⟩ := hk
        refine ⟨_, hK, reads_arith ho rfl ?_⟩
        rw [hx, hy]
        show Reads P (if k ≠ k' then _ else Op.intDiv .rem k a b) h _
        rw [if_neg (by simp [hkk])]
        unfold Op.intDiv
        rw [if_neg hz]; exact Reads.pure _
      · exact hk.elim
    · rename_i k a k' b hx hy
      obtain ⟨hz, hK⟩ := hk
      refine ⟨_, hK, reads_arith ho rfl ?_⟩
      rw [hx, hy]
      show Reads P (Op.shift .shl k a k' b) h _
      unfold Op.shift
      rw [if_neg (by omega)]; exact Reads.pure _
    · rename_i k a k' b hx hy
      obtain ⟨hz, hK⟩ := hk
      refine ⟨_, hK, reads_arith ho rfl ?_⟩
      rw [hx, hy]
      show Reads P (Op.shift .shr k a k' b) h _
      unfold Op.shift
      rw [if_neg (by omega)]; exact Reads.pure _
    · exact gen hk
  · exact gen hk

theorem fOp_sound {P : Program} {o : Oper} {e : Env} {h : PH} {K : Value → Prop} (hk : fOp P o e h K) : ∃ v, K v ∧ ∀ W a w, Fits e a → St W h w → (execOp a.eval o).run P w = .ok (.value v) w := by
  unfold fOp at hk
  split at hk
  · rename_i hn
    obtain ⟨v, hK, hr⟩ := fRaw_sound hk
    exact ⟨v, hK, fun W a w f st => by rw [known_exec f hn]; exact hr W w st⟩
  · exact hk.elim

end Go.Sx
