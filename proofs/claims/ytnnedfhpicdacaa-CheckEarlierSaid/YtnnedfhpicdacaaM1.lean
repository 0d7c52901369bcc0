/-
  How rows of integers are compared, and how keys of maps are found.
-/
import Derived.Test.YtnnedfhpicdacaaM0
import Derived.Test.YtnnedfhpicdacaaFM
import Derived.Laws.StructEq
namespace Go.Sx
open Go

/-- A struct of integers alone: its fields, one cell each. -/
def intFields (P : Program) : List Field → Nat → Bool
  | [], _ => true
  | f :: fs, i => !(f.name == "_") && Nat.beq f.offset i && (match P.underlying f.type with | some (.int _) => true | _ => false) && intFields P fs (i + 1)
def intStruct (P : Program) (t : TypeId) (n : Nat) : Bool :=
  (match P.underlying t with | some (.struct fs) => intFields P fs.toList 0 && Nat.beq fs.size n | _ => false) && !P.stoodInHeld t

def intsOf (l : List (IntKind × Int)) : Array Value := (l.map fun p => Value.int p.1 p.2).toArray

theorem run_part_int {P : Program} {w : World} {t : TypeId} {k' : IntKind} {cs : Array Value} {off : Nat} {k : IntKind} {n : Int} (ht : P.underlying t = some (.int k')) (h : cs[off]? = some (.int k n)) : (part t cs off).run P w = .ok (.int k n) w := by
  unfold part isAgg
  simp [run_underlying ht, h]

theorem run_eqFields_int {P : Program} {w : World} (d : Nat) (ks : List IntKind) (xs ys : List Int) (hx : xs.length = ks.length) (hy : ys.length = ks.length) : ∀ (fs : List Field) (i : Nat), intFields P fs i = true → i + fs.length = ks.length →
    (Op.eqFields (d + 1) (intsOf (ks.zip xs)) (intsOf (ks.zip ys)) fs).run P w = .ok (xs.drop i == ys.drop i) w := by
  intro fs
  induction fs with
  | nil =>
    intro i _ hi
    simp only [List.length_nil, Nat.add_zero] at hi
    have e1 : xs.drop i = [] := by rw [List.drop_eq_nil_iff]; omega
    have e2 : ys.drop i = [] := by rw [List.drop_eq_nil_iff]; omega
    simp [Op.eqFields, e1, e2]
  | cons f fs ih =>
    intro i hf hi
    simp only [List.length_cons] at hi
    simp only [intFields, Bool.and_eq_true, Bool.not_eq_true', beq_eq_false_iff_ne] at hf
    obtain ⟨⟨⟨hn, ho⟩, ht⟩, hr⟩ := hf
    have ho := Nat.eq_of_beq_eq_true ho
    have hix : i < xs.length := by omega
    have hiy : i < ys.length := by omega
    have hik : i < ks.length := by omega
    cases hu : P.underlying f.type with
    | none => rw [hu] at ht; cases ht
    | some k =>
      rw [hu] at ht
      cases k <;> simp only [Bool.false_eq_true] at ht
      rename_i k
      have gx : (intsOf (ks.zip xs))[i]? = some (.int ks[i] xs[i]) := by
        simp only [intsOf, List.getElem?_toArray, List.getElem?_map]
        rw [List.getElem?_eq_getElem (by simp; omega)]
        simp
      have gy : (intsOf (ks.zip ys))[i]? = some (.int ks[i] ys[i]) := by
        simp only [intsOf, List.getElem?_toArray, List.getElem?_map]
        rw [List.getElem?_eq_getElem (by simp; omega)]
        simp
      unfold Op.eqFields
      rw [if_pos hn]
      rw [Sem.run_bind, ho, run_part_int hu gx]
      simp only [Result.andThen_ok]
      rw [Sem.run_bind, run_part_int hu gy]
      simp only [Result.andThen_ok]
      rw [Sem.run_bind, run_equalIn_int w d f.type _ k _ _ hu]
      simp only [Result.andThen_ok]
      rw [List.drop_eq_getElem_cons hix, List.drop_eq_getElem_cons hiy]
      by_cases e : xs[i] = ys[i]
      · simp only [e, beq_self_eq_true, Bool.not_true, Bool.false_eq_true, if_false]
        rw [ih (i + 1) hr (by omega)]
        congr 1
        simp only [List.cons_beq_cons, beq_self_eq_true, Bool.true_and]
      · have e' : (xs[i] == ys[i]) = false := by simpa using e
        simp only [e', Bool.not_false, if_true, List.cons_beq_cons, Bool.false_and]
        rfl

theorem run_equal_ints {P : Program} {w : World} {t : TypeId} (ks : List IntKind) (xs ys : List Int) (h : intStruct P t ks.length = true) (hx : xs.length = ks.length) (hy : ys.length = ks.length) :
    (Op.equal t (.agg (intsOf (ks.zip xs))) (.agg (intsOf (ks.zip ys)))).run P w = .ok (xs == ys) w := by
  simp only [intStruct, Bool.and_eq_true, Bool.not_eq_true'] at h
  obtain ⟨h, hp⟩ := h
  cases hu : P.underlying t with
  | none => rw [hu] at h; cases h
  | some k =>
    rw [hu] at h
    cases k <;> simp only [Bool.false_eq_true] at h
    rename_i fs
    simp only [Bool.and_eq_true] at h
    obtain ⟨hf, hn⟩ := h
    have hn := Nat.eq_of_beq_eq_true hn
    have hF : P.fieldsOf t = fs := by simp [Program.fieldsOf, hu]
    show (Op.equalIn (9998 + 1 + 1) t _ _).run P w = _
    rw [run_equalIn_agg w _ t _ _ (by rw [hF]; exact hu) hp, hF]
    have := run_eqFields_int (P := P) (w := w) 9998 ks xs ys hx hy fs.toList 0 hf (by simp; omega)
    simpa using this

theorem eqLaw_ints {P : Program} {t : TypeId} (ks : List IntKind) (xs ys : List Int) (h : (intStruct P t ks.length && !P.eqGuardType P.depth t) = true) (hx : xs.length = ks.length) (hy : ys.length = ks.length) :
    EqLaw P t (.agg (intsOf (ks.zip xs))) (.agg (intsOf (ks.zip ys))) (xs == ys) := by
  simp only [Bool.and_eq_true, Bool.not_eq_true'] at h
  exact ⟨h.2, fun w => run_equal_ints ks xs ys h.1 hx hy⟩

/-! ### Keys of two integers -/
def key2 (a b : Int) : Value := .agg #[.int .i64 a, .int .i64 b]
def isKey2 (v : Value) : Prop := ∃ a b, v = key2 a b

theorem sameBits_key2 (a b c d : Int) (n : Nat) : Instr.sameBits (n + 1) (key2 a b) (key2 c d) = (a == c && b == d) := by
  unfold key2
  cases n <;> simp [Instr.sameBits]

theorem run_checkKey_int {P : Program} {w : World} {t : TypeId} {k : IntKind} (em : Bool) (n : Nat) (v : Value) (h : P.underlying t = some (.int k)) : (Instr.checkKey em (n + 1) t v).run P w = .ok () w := by
  unfold Instr.checkKey
  simp [run_underlying h]

theorem keyLaw2 {P : Program} {t : TypeId} {f g : Field} (hu : P.underlying t = some (.struct #[f, g])) (h : intStruct P t 2 = true) : KeyLaw P t isKey2 := by
  have h' := h
  simp only [intStruct, hu, Bool.and_eq_true, intFields, Bool.not_eq_true', beq_eq_false_iff_ne] at h'
  obtain ⟨⟨⟨⟨⟨hn1, ho1⟩, ht1⟩, ⟨⟨hn2, ho2⟩, ht2⟩, -⟩, -⟩, -⟩ := h'
  have ho1 := Nat.eq_of_beq_eq_true ho1
  have ho2 := Nat.eq_of_beq_eq_true ho2
  have int_of : ∀ x : TypeId, (match P.underlying x with | some (.int _) => true | _ => false) = true → ∃ k, P.underlying x = some (.int k) := by
    intro x hx
    cases e : P.underlying x with
    | none => rw [e] at hx; cases hx
    | some d => rw [e] at hx; cases d <;> first | exact ⟨_, rfl⟩ | cases hx
  obtain ⟨k1, u1⟩ := int_of _ ht1
  obtain ⟨k2, u2⟩ := int_of _ ht2
  have eqs : ∀ a b c d w, (Op.equal t (key2 a b) (key2 c d)).run P w = .ok (a == c && b == d) w := by
    intro a b c d w
    have := run_equal_ints (P := P) (w := w) (t := t) [.i64, .i64] [a, b] [c, d] h rfl rfl
    simpa [intsOf, key2] using this
  refine ⟨?_, ?_, ?_⟩
  · rintro k ⟨a, b, rfl⟩ em w
    unfold Instr.checkKey
    simp only [Sem.run_bind, run_underlying hu, Result.andThen_ok, key2]
    have p1 : ∀ w, (part f.type #[Value.int .i64 a, .int .i64 b] f.offset).run P w = .ok (.int .i64 a) w := fun w => run_part_int u1 (by rw [ho1]; rfl)
    have p2 : ∀ w, (part g.type #[Value.int .i64 a, .int .i64 b] g.offset).run P w = .ok (.int .i64 b) w := fun w => run_part_int u2 (by rw [ho2]; rfl)
    have c1 : ∀ v w, (Instr.checkKey em 9999 f.type v).run P w = .ok () w := fun v w => run_checkKey_int em 9998 v u1
    have c2 : ∀ v w, (Instr.checkKey em 9999 g.type v).run P w = .ok () w := fun v w => run_checkKey_int em 9998 v u2
    rw [← Array.forIn_toList]
    simp [hn1, hn2, p1, p2, c1, c2, Result.andThen]
  · intro k es ⟨a, b, hk⟩ hes w
    subst hk
    have ask : ∀ (es : List MapEntry) (i : Nat), (∀ e ∈ es, isKey2 e.key) → (Instr.findAsking t (key2 a b) es i).run P w = .ok (findE es (key2 a b) i) w := by
      intro es
      induction es with
      | nil => intro i _; rfl
      | cons e es ih =>
        intro i hes
        obtain ⟨c, d, hc⟩ := hes e (List.mem_cons_self ..)
        unfold Instr.findAsking findE
        rw [Sem.run_bind, hc, eqs, sameBits_key2]
        simp only [Result.andThen_ok]
        by_cases hh : (a == c && b == d) = true
        · simp [hh]
        · simp only [hh, if_false, Bool.false_eq_true]
          exact ih (i + 1) fun e he => hes e (List.mem_cons_of_mem _ he)
    unfold Instr.findKey
    rw [Sem.run_bind, run_underlying hu]
    simp only [Result.andThen_ok]
    cases es with
    | nil => rfl
    | cons e es =>
      obtain ⟨c, d, hc⟩ := hes e (List.mem_cons_self ..)
      have : Instr.findNow (.struct #[f, g]) (key2 a b) (e :: es) 0 = none := by
        unfold Instr.findNow; rw [hc]; rfl
      rw [this]
      exact ask _ 0 hes
  · rintro k k' ⟨a, b, rfl⟩ ⟨c, d, rfl⟩
    rw [sameBits_key2, sameBits_key2]
    rw [Bool.eq_iff_iff]
    constructor <;> intro h <;> simp at h ⊢ <;> exact ⟨h.1.symm, h.2.symm⟩

theorem keyLaw2' {P : Program} {t : TypeId} (h : intStruct P t 2 = true) : KeyLaw P t isKey2 := by
  have h' := h
  simp only [intStruct, Bool.and_eq_true] at h'
  obtain ⟨h', _⟩ := h'
  cases hu : P.underlying t with
  | none => rw [hu] at h'; cases h'
  | some k =>
    rw [hu] at h'
    cases k <;> simp only [Bool.false_eq_true] at h'
    rename_i fs
    simp only [Bool.and_eq_true] at h'
    have hn := Nat.eq_of_beq_eq_true h'.2
    have : ∃ f g, fs = #[f, g] := by
      obtain ⟨l⟩ := fs
      match l, hn with
      | [f, g], _ => exact ⟨f, g, rfl⟩
    obtain ⟨f, g, rfl⟩ := this
    exact keyLaw2 hu h

end Go.Sx
