/-
  Keys of maps that are integers; sets of calls as bits.
-/
import Derived.Test.YtnnedfhpicdacaaM1
set_option linter.unusedSimpArgs false
set_option linter.unusedVariables false
namespace Go.Sx
open Go

def isKeyI (k : IntKind) (v : Value) : Prop := ∃ n, v = .int k n
theorem sameBits_int (k : IntKind) (a b : Int) (n : Nat) : Instr.sameBits (n + 1) (.int k a) (.int k b) = (a == b) := by
  simp [Instr.sameBits]
theorem keyLawInt {P : Program} {t : TypeId} {k : IntKind} (hu : P.underlying t = some (.int k)) : KeyLaw P t (isKeyI k) := by
  refine ⟨fun v _ em w => run_checkKey_int em 9999 v hu, ?_, ?_⟩
  · rintro v es ⟨a, rfl⟩ hes w
    have ask : ∀ (es : List MapEntry) (i : Nat), (∀ e ∈ es, isKeyI k e.key) → Instr.findNow (.int k) (.int k a) es i = some (findE es (.int k a) i) := by
      intro es
      induction es with
      | nil => intro i _; rfl
      | cons e es ih =>
        intro i hes
        obtain ⟨c, hc⟩ := hes e (List.mem_cons_self ..)
        unfold Instr.findNow findE
        rw [hc, sameBits_int]
        simp only [Instr.sameNow, if_true]
        by_cases hh : (a == c) = true
        · simp [hh]
        · have hh' : (a == c) = false := by simpa using hh
          simp only [hh', Bool.false_eq_true, if_false]
          exact ih (i + 1) fun e he => hes e (List.mem_cons_of_mem _ he)
    unfold Instr.findKey
    rw [Sem.run_bind, run_underlying hu]
    simp only [Result.andThen_ok, ask es 0 hes]
    rfl
  · rintro v v' ⟨a, rfl⟩ ⟨b, rfl⟩
    rw [sameBits_int, sameBits_int, Bool.eq_iff_iff]
    constructor <;> intro h <;> simp at h ⊢ <;> exact h.symm

theorem wrapU (n : Nat) (h : n < 2 ^ 64) : IntKind.wrap .u64 (n : Int) = n := by
  unfold IntKind.wrap
  simp only [IntKind.bits, IntKind.signed, Bool.false_and, if_false, Bool.false_eq_true]
  exact Int.emod_eq_of_lt (by omega) (by exact_mod_cast h)
theorem ofIntN (n : Nat) : BitVec.ofInt 64 (n : Int) = BitVec.ofNat 64 n := BitVec.ofInt_natCast 64 n

theorem shl_one (k : Nat) (hk : k < 64) : IntKind.wrap .u64 (1 * 2 ^ (min ((k : Int).toNat) (IntKind.bits .u64))) = ((2 ^ k : Nat) : Int) := by
  have : min ((k : Int).toNat) (IntKind.bits .u64) = k := by
    show min ((k : Int).toNat) 64 = k
    simp; omega
  rw [this, Int.one_mul]
  have := wrapU (2 ^ k) (Nat.pow_lt_pow_right (by decide) hk)
  rw [← this]
  congr 1
theorem powC (k : Nat) : (2 ^ k : Int) = ((2 ^ k : Nat) : Int) := by simp
theorem shr_bit (d k : Nat) (hk : k < 64) (hd : d < 2 ^ 64) :
    (IntKind.wrap .u64 (BitVec.ofInt (IntKind.bits .u64) ((d : Int).fdiv (2 ^ (min ((k : Int).toNat) (IntKind.bits .u64)))) &&& BitVec.ofInt (IntKind.bits .u64) 1).toNat == 1) = d.testBit k := by
  have e0 : min ((k : Int).toNat) (IntKind.bits .u64) = k := by
    show min ((k : Int).toNat) 64 = k
    simp; omega
  have e1 : (d : Int).fdiv (2 ^ k) = ((d >>> k : Nat) : Int) := by
    rw [Nat.shiftRight_eq_div_pow, powC, Int.fdiv_eq_ediv_of_nonneg _ (Int.natCast_nonneg _)]
    exact (Int.natCast_ediv _ _).symm
  rw [e0, e1]
  show (IntKind.wrap .u64 ((BitVec.ofInt 64 ((d >>> k : Nat) : Int) &&& BitVec.ofInt 64 ((1 : Nat) : Int)).toNat : Int) == 1) = d.testBit k
  rw [ofIntN, ofIntN]
  have e2 : (BitVec.ofNat 64 (d >>> k) &&& BitVec.ofNat 64 1).toNat = (d >>> k) % 2 := by
    rw [BitVec.toNat_and, BitVec.toNat_ofNat, BitVec.toNat_ofNat, Nat.mod_eq_of_lt (Nat.lt_of_le_of_lt (Nat.shiftRight_le _ _) hd)]
    exact Nat.and_one_is_mod _
  rw [e2, wrapU _ (by omega)]
  have e3 : d.testBit k = ((d >>> k) % 2 == 1) := by
    rw [Nat.testBit, Nat.and_comm, Nat.and_one_is_mod]
    rcases Nat.mod_two_eq_zero_or_one (d >>> k) with h | h <;> simp [h]
  rw [e3]
  rcases Nat.mod_two_eq_zero_or_one (d >>> k) with h | h <;> simp [h]
theorem or_bits (d e : Nat) (hd : d < 2 ^ 64) (he : e < 2 ^ 64) :
    IntKind.wrap .u64 (BitVec.ofInt (IntKind.bits .u64) (d : Int) ||| BitVec.ofInt (IntKind.bits .u64) (e : Int)).toNat = ((d ||| e : Nat) : Int) := by
  show IntKind.wrap .u64 ((BitVec.ofInt 64 (d : Int) ||| BitVec.ofInt 64 (e : Int)).toNat : Int) = _
  rw [ofIntN, ofIntN]
  have : (BitVec.ofNat 64 d ||| BitVec.ofNat 64 e).toNat = d ||| e := by
    rw [BitVec.toNat_or, BitVec.toNat_ofNat, BitVec.toNat_ofNat, Nat.mod_eq_of_lt hd, Nat.mod_eq_of_lt he]
  rw [this]
  exact wrapU _ (Nat.or_lt_two_pow hd he)
theorem andNot_bits (o d : Nat) (ho : o < 2 ^ 64) (hd : d < 2 ^ 64) :
    (IntKind.wrap .u64 (BitVec.ofInt (IntKind.bits .u64) (o : Int) &&& ~~~(BitVec.ofInt (IntKind.bits .u64) (d : Int))).toNat != 0) = true ↔ ∃ i, i < 64 ∧ o.testBit i = true ∧ d.testBit i = false := by
  show (IntKind.wrap .u64 ((BitVec.ofInt 64 (o : Int) &&& ~~~(BitVec.ofInt 64 (d : Int))).toNat : Int) != 0) = true ↔ _
  rw [ofIntN, ofIntN, wrapU _ (BitVec.isLt _)]
  have e1 : (((BitVec.ofNat 64 o &&& ~~~(BitVec.ofNat 64 d)).toNat : Int) != 0) = true ↔ BitVec.ofNat 64 o &&& ~~~(BitVec.ofNat 64 d) ≠ 0#64 := by
    rw [bne_iff_ne]
    constructor
    · intro h h2; rw [h2] at h; exact h rfl
    · intro h h2; exact h (BitVec.eq_of_toNat_eq (by simpa using h2))
  rw [e1]
  have bit : ∀ i, i < 64 → (BitVec.ofNat 64 o &&& ~~~(BitVec.ofNat 64 d)).getLsbD i = (o.testBit i && !d.testBit i) := by
    intro i hi
    rw [BitVec.getLsbD_and, BitVec.getLsbD_not, BitVec.getLsbD_ofNat, BitVec.getLsbD_ofNat]
    simp [hi]
  constructor
  · intro h
    by_cases hx : ∃ i, i < 64 ∧ o.testBit i = true ∧ d.testBit i = false
    · exact hx
    · exfalso
      apply h
      apply BitVec.eq_of_getLsbD_eq
      intro i hi
      rw [bit i hi]
      simp only [BitVec.getLsbD_zero]
      cases h1 : o.testBit i with
      | false => rfl
      | true =>
        cases h2 : d.testBit i with
        | true => rfl
        | false => exact absurd ⟨i, hi, h1, h2⟩ hx
  · rintro ⟨i, hi, h1, h2⟩ h
    have := bit i hi
    rw [h, h1, h2] at this
    simp at this
end Go.Sx
