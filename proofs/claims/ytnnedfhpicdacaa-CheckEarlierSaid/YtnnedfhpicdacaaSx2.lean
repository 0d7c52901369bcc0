/-
  SX, part 2: the kinds of cells, typed loads; the slots' known values; the operations that only read ('fRaw') and those that do not ('gRaw'), and that their reading is sound.
-/
import Derived.Test.YtnnedfhpicdacaaSx1
namespace Go.Sx
open Go

/-! ### The shapes of cells -/
inductive At where
  | int (k : IntKind) | bool | str | ptr | slice | map | any
inductive Leaf where
  | one (a : At) | agg (l : List At) | big (n : Nat)

def At.fn : At → Type → Type
  | .int _, T => Int → T
  | .bool, T => Bool → T
  | .str, T => ByteArray → T
  | .ptr, T => Option Addr → T
  | .slice, T => Option Addr → Nat → Nat → T
  | .map, T => Option Nat → T
  | .any, T => Value → T

/-- What a cell, or a result, is of: an integer .. -/
def oI (k : IntKind) (c : Option Value) (K : Int → Prop) : Prop := ∃ n, c = some (.int k n) ∧ K n
def oB (c : Option Value) (K : Bool → Prop) : Prop := ∃ n, c = some (.bool n) ∧ K n
def oT (c : Option Value) (K : ByteArray → Prop) : Prop := ∃ n, c = some (.string n) ∧ K n
def oP (c : Option Value) (K : Option Addr → Prop) : Prop := ∃ n, c = some (.pointer n) ∧ K n
def oS (c : Option Value) (K : Option Addr → Nat → Nat → Prop) : Prop := ∃ a l m, c = some (.slice a l m) ∧ K a l m
def oM (c : Option Value) (K : Option Nat → Prop) : Prop := ∃ n, c = some (.map n) ∧ K n
def oV (c : Option Value) (K : Value → Prop) : Prop := ∃ n, c = some n ∧ K n

@[simp] theorem oI_some (k : IntKind) (n : Int) (K : Int → Prop) : oI k (some (.int k n)) K ↔ K n := ⟨fun ⟨m, e, hK⟩ => by simp at e; subst e; exact hK, fun hK => ⟨n, rfl, hK⟩⟩
@[simp] theorem oB_some (n : Bool) (K : Bool → Prop) : oB (some (.bool n)) K ↔ K n := ⟨fun ⟨m, e, hK⟩ => by simp at e; subst e; exact hK, fun hK => ⟨n, rfl, hK⟩⟩
@[simp] theorem oT_some (n : ByteArray) (K : ByteArray → Prop) : oT (some (.string n)) K ↔ K n := ⟨fun ⟨m, e, hK⟩ => by simp at e; subst e; exact hK, fun hK => ⟨n, rfl, hK⟩⟩
@[simp] theorem oP_some (n : Option Addr) (K : Option Addr → Prop) : oP (some (.pointer n)) K ↔ K n := ⟨fun ⟨m, e, hK⟩ => by simp at e; subst e; exact hK, fun hK => ⟨n, rfl, hK⟩⟩
@[simp] theorem oS_some (a : Option Addr) (l m : Nat) (K : Option Addr → Nat → Nat → Prop) : oS (some (.slice a l m)) K ↔ K a l m :=
  ⟨fun ⟨a', l', m', e, hK⟩ => by simp at e; obtain ⟨rfl, rfl, rfl⟩ := e; exact hK, fun hK => ⟨a, l, m, rfl, hK⟩⟩
@[simp] theorem oM_some (n : Option Nat) (K : Option Nat → Prop) : oM (some (.map n)) K ↔ K n := ⟨fun ⟨m, e, hK⟩ => by simp at e; subst e; exact hK, fun hK => ⟨n, rfl, hK⟩⟩
@[simp] theorem oV_some (n : Value) (K : Value → Prop) : oV (some n) K ↔ K n := ⟨fun ⟨m, e, hK⟩ => by simp at e; subst e; exact hK, fun hK => ⟨n, rfl, hK⟩⟩

def oAt : At → Option Value → (Value → Prop) → Prop
  | .int k, c, K => oI k c fun n => K (.int k n)
  | .bool, c, K => oB c fun n => K (.bool n)
  | .str, c, K => oT c fun n => K (.string n)
  | .ptr, c, K => oP c fun n => K (.pointer n)
  | .slice, c, K => oS c fun a l m => K (.slice a l m)
  | .map, c, K => oM c fun n => K (.map n)
  | .any, c, K => oV c fun n => K n

theorem oAt_some {a : At} {c : Option Value} {K : Value → Prop} (h : oAt a c K) : ∃ v, c = some v ∧ K v := by
  cases a <;> simp only [oAt, oI, oB, oT, oP, oS, oM, oV] at h
  case slice => obtain ⟨a, l, m, e, hK⟩ := h; exact ⟨_, e, hK⟩
  all_goals (obtain ⟨n, e, hK⟩ := h; exact ⟨_, e, hK⟩)

/-- Cells in a row. -/
def oRow (c : Nat → Option Value) : List At → Nat → (List Value → Prop) → Prop
  | [], _, K => K []
  | x :: xs, i, K => oAt x (c i) fun v => oRow c xs (i + 1) fun vs => K (v :: vs)

theorem oRow_some {c : Nat → Option Value} : ∀ {l : List At} {i : Nat} {K : List Value → Prop}, oRow c l i K → ∃ vs, vs.length = l.length ∧ (∀ j, j < l.length → c (i + j) = vs[j]?) ∧ K vs
  | [], _, _, h => ⟨[], rfl, fun j hj => absurd hj (Nat.not_lt_zero j), h⟩
  | x :: xs, i, K, h => by
    obtain ⟨v, hv, h⟩ := oAt_some h
    obtain ⟨vs, hl, hc, hK⟩ := oRow_some h
    refine ⟨v :: vs, by simp [hl], fun j hj => ?_, hK⟩
    cases j with
    | zero => simpa using hv
    | succ j => have := hc j (by simpa using hj); simpa [Nat.add_assoc, Nat.add_comm 1 j] using this

/-- A long row of cells. -/
def oBig (h : PH) (a : Addr) (n : Nat) (K : Array Value → Prop) : Prop := ∃ cs : Array Value, cs.size = n ∧ (∀ i, i < n → h.cell (a.add i) = cs[i]?) ∧ K cs

def oLoad : Leaf → PH → Addr → (Value → Prop) → Prop
  | .one x, h, a, K => oAt x (h.cell a) K
  | .agg l, h, a, K => oRow (fun i => h.cell (a.add i)) l 0 fun vs => K (.agg vs.toArray)
  | .big n, h, a, K => oBig h a n fun cs => K (.agg cs)

/-- A value of a shape, typed: a call's result. -/
def oVal : Leaf → Value → (Value → Prop) → Prop
  | .one x, v, K => oAt x (some v) K
  | .agg l, v, K => ∃ cs : Array Value, v = .agg cs ∧ cs.size = l.length ∧ oRow (fun i => cs[i]?) l 0 fun vs => K (.agg vs.toArray)
  | .big n, v, K => ∃ cs : Array Value, v = .agg cs ∧ cs.size = n ∧ K (.agg cs)

def oVals (c : Nat → Option Value) : List Leaf → Nat → (List Value → Prop) → Prop
  | [], _, K => K []
  | x :: xs, i, K => ∃ w, c i = some w ∧ oVal x w fun v => oVals c xs (i + 1) fun vs => K (v :: vs)

theorem oVal_same {l : Leaf} {v : Value} {K : Value → Prop} (h : oVal l v K) : K v := by
  cases l with
  | one x => obtain ⟨u, e, hK⟩ := oAt_some h; simp at e; subst e; exact hK
  | agg l =>
    obtain ⟨cs, rfl, hn, h⟩ := h
    obtain ⟨vs, hl, hc, hK⟩ := oRow_some h
    have : cs = vs.toArray := by
      apply Array.ext (by simp [hn, hl])
      intro i h1 h2
      have := hc i (by omega)
      simp at this
      rw [Array.getElem?_eq_getElem h1, List.getElem?_eq_getElem (by simpa using h2)] at this
      simpa using this
    rw [this]; exact hK
  | big n => obtain ⟨cs, rfl, _, hK⟩ := h; exact hK

theorem oVals_same {c : Nat → Option Value} : ∀ {l : List Leaf} {i : Nat} {K : List Value → Prop}, oVals c l i K → ∃ vs, vs.length = l.length ∧ (∀ j, j < l.length → c (i + j) = vs[j]?) ∧ K vs
  | [], _, _, h => ⟨[], rfl, fun j hj => absurd hj (Nat.not_lt_zero j), h⟩
  | x :: xs, i, K, h => by
    obtain ⟨w, hw, h⟩ := h
    obtain ⟨vs, hl, hc, hK⟩ := oVals_same (oVal_same h)
    refine ⟨w :: vs, by simp [hl], fun j hj => ?_, hK⟩
    cases j with
    | zero => simpa using hw
    | succ j => have := hc j (by simpa using hj); simpa [Nat.add_assoc, Nat.add_comm 1 j] using this

/-- A call's result, of whatever many. -/
def oRes : List Leaf → Value → (Value → Prop) → Prop
  | [x], v, K => oVal x v K
  | l, v, K => ∃ cs : Array Value, v = .tuple cs ∧ cs.size = l.length ∧ oVals (fun i => cs[i]?) l 0 fun vs => K (.tuple vs.toArray)

theorem oRes_same {l : List Leaf} {v : Value} {K : Value → Prop} (h : oRes l v K) : K v := by
  unfold oRes at h
  split at h
  · exact oVal_same h
  · obtain ⟨cs, rfl, hn, h⟩ := h
    obtain ⟨vs, hl, hc, hK⟩ := oVals_same h
    have : cs = vs.toArray := by
      apply Array.ext (by simp [hn, hl])
      intro i h1 h2
      have := hc i (by omega)
      simp at this
      rw [Array.getElem?_eq_getElem h1, List.getElem?_eq_getElem (by simpa using h2)] at this
      simpa using this
    rw [this]; exact hK

/-! ### The shape of a type -/
def atOf (d : Option TypeDesc) : Option At :=
  match d with
  | some (.int k) => some (.int k)
  | some .bool => some .bool
  | some .string => some .str
  | some (.pointer _) => some .ptr
  | some (.slice _) => some .slice
  | some (.map _ _) => some .map
  | some (.struct _) | some (.array _ _) | some (.tuple _) | none => none
  | _ => some .any

/-- The cells of a type, flat. -/
def atsOf (P : Program) : Nat → TypeId → Option (List At)
  | 0, _ => none
  | d + 1, t =>
    match P.underlying t with
    | some (.struct fs) => fs.toList.foldr (fun f acc => match atsOf P d f.type, acc with | some x, some y => some (x ++ y) | _, _ => none) (some [])
    | some (.array n e) => match atsOf P d e with
      | some x => some (List.replicate n x).flatten
      | none => none
    | u => match atOf u with
      | some a => some [a]
      | none => none

def maxAgg : Nat := 24

def leafOf (P : Program) (t : TypeId) : Leaf :=
  match P.underlying t with
  | some (.struct _) | some (.array _ _) => if P.cellsOf t ≤ maxAgg then (match atsOf P 10 t with | some l => if l.length = P.cellsOf t then .agg l else .big (P.cellsOf t) | none => .big (P.cellsOf t)) else .big (P.cellsOf t)
  | u => .one ((atOf u).getD .any)

def resOf (P : Program) (t : TypeId) : List Leaf :=
  match P.underlying t with
  | some (.tuple ts) => ts.toList.map (leafOf P)
  | _ => [leafOf P t]

/-! ### The slots -/
abbrev Env := List (Nat × Value)
def Env.get : Env → Nat → Option Value
  | [], _ => none
  | (s, v) :: r, t => bif Nat.beq s t then some v else Env.get r t
def ev (e : Env) : Operand → Option Value
  | .tmp t => e.get t
  | .const v => some v
  | .global g => some (.pointer (some ⟨g, 0, none⟩))
  | .func f => some (.func (.func f) #[] #[])
def evD (e : Env) (x : Operand) : Value := (ev e x).getD undef
def Env.put (e : Env) (d : Option Nat) (v : Value) : Env := match d with | some t => (t, v) :: e | none => e
def Env.drop (e : Env) (D : List Nat) : Env := e.filter fun p => !D.any (Nat.beq p.1)

structure Fits (e : Env) (a : Act) : Prop where
  g : ∀ t v, e.get t = some v → a.tmps[t]? = some v

theorem Env.get_cons (e : Env) (s : Nat) (v : Value) (t : Nat) : Env.get ((s, v) :: e) t = if s = t then some v else e.get t := by
  simp only [Env.get]
  by_cases h : s = t
  · subst h; simp
  · have : Nat.beq s t = false := by
      cases hb : Nat.beq s t with
      | false => rfl
      | true => exact absurd (Nat.eq_of_beq_eq_true hb) h
    simp [this, h]

theorem Env.get_drop {e : Env} {D : List Nat} {t : Nat} {v : Value} (h : (e.drop D).get t = some v) : t ∉ D ∧ e.get t = some v := by
  induction e with
  | nil => simp [Env.drop, Env.get] at h
  | cons p r ih =>
    obtain ⟨s, u⟩ := p
    unfold Env.drop at h
    rw [List.filter_cons] at h
    by_cases hs : (!D.any (Nat.beq s)) = true
    · simp only [hs, if_true] at h
      rw [Env.get_cons] at h
      rw [Env.get_cons]
      by_cases e : s = t
      · subst e
        simp only [if_true] at h ⊢
        refine ⟨fun hm => ?_, h⟩
        simp only [Bool.not_eq_true', List.any_eq_false] at hs
        exact hs s hm (by simp)
      · simp only [e, if_false] at h ⊢
        exact ih h
    · have hs' : (!D.any (Nat.beq s)) = false := by simpa using hs
      simp only [hs', Bool.false_eq_true, if_false] at h
      obtain ⟨h1, h2⟩ := ih h
      refine ⟨h1, ?_⟩
      rw [Env.get_cons]
      split
      · rename_i e; subst e
        simp only [Bool.not_eq_false', List.any_eq_true] at hs'
        obtain ⟨x, hx, hb⟩ := hs'
        have : s = x := Nat.eq_of_beq_eq_true hb
        subst this
        exact absurd hx h1
      · exact h2

theorem Fits.ev {e : Env} {a : Act} (f : Fits e a) {x : Operand} {v : Value} (h : Sx.ev e x = some v) : a.eval x = v := by
  cases x with
  | tmp t =>
    have := f.g t v h
    simp [Array.getElem?_eq_some_iff] at this
    obtain ⟨h1, h2⟩ := this
    simp [Act.eval, Array.getD, h1, h2]
  | const u => simpa [Sx.ev, Act.eval] using h
  | global g => simpa [Sx.ev, Act.eval] using h
  | func f => simpa [Sx.ev, Act.eval] using h

/-- Slot 'd' is there, in the frame. -/
theorem Fits.put {e : Env} {a : Act} (f : Fits e a) (d : Option Nat) (v : Value) (hd : ∀ t, d = some t → t < a.tmps.size) : Fits (e.put d v) (a.put d v) := by
  cases d with
  | none => exact f
  | some t =>
    have ht := hd t rfl
    refine ⟨fun s u hs => ?_⟩
    simp only [Env.put, Env.get_cons] at hs
    show (a.tmps.setIfInBounds t v)[s]? = some u
    split at hs
    · rename_i e; subst e; simp at hs; subst hs; simp [ht]
    · rename_i e; rw [Array.getElem?_setIfInBounds_ne e]; exact f.g s u hs

def isSel : Op → Bool
  | .select .. => true
  | _ => false
/-- All that the operation looks at is known. -/
def known (e : Env) (o : Oper) : Bool := !isSel o.op && o.op.operands.all fun x => (ev e x).isSome

theorem known_exec {e : Env} {a : Act} {o : Oper} (f : Fits e a) (h : known e o = true) : execOp a.eval o = execOp (evD e) o := by
  simp only [known, Bool.and_eq_true] at h
  refine execOp_congr o (fun cs b hc => by rw [hc] at h; simp [isSel] at h) fun x hx => ?_
  have := Array.all_eq_true_iff_forall_mem.1 h.2 x hx
  obtain ⟨v, hv⟩ := Option.isSome_iff_exists.1 this
  rw [f.ev hv]; simp [evD, hv]

/-! ### What an operation that only reads yields -/

/-- An index within a length; its place. -/
def xIdx (base : Option Addr) (len : Nat) (i : Int) (size : Nat) (K : Addr → Prop) : Prop := ∃ a, base = some a ∧ 0 ≤ i ∧ i < len ∧ K (a.add (i.toNat * size))
def xIdxA (a : Addr) (len : Nat) (i : Int) (size : Nat) (K : Addr → Prop) : Prop := (0 ≤ i ∧ i < len) ∧ K (a.add (i.toNat * size))
/-- A byte of a string. -/
def xByte (s : ByteArray) (i : Int) (K : Int → Prop) : Prop := ∃ b : UInt8, 0 ≤ i ∧ s[i.toNat]? = some b ∧ K b.toNat
/-- s[l:h] of a slice of elements of so many cells. -/
def xSlice (base : Option Addr) (len cap : Nat) (size : Nat) (lo hi : Option Int) (K : Option Addr → Nat → Nat → Prop) : Prop :=
  (0 ≤ lo.getD 0 ∧ lo.getD 0 ≤ hi.getD len ∧ hi.getD len ≤ cap) ∧
    K (if cap = (lo.getD 0).toNat then base else base.map (·.add ((lo.getD 0).toNat * size))) ((hi.getD len).toNat - (lo.getD 0).toNat) (cap - (lo.getD 0).toNat)
/-- s[l:h] of a string. -/
def xSub (s : ByteArray) (lo hi : Option Int) (K : ByteArray → Prop) : Prop :=
  (0 ≤ lo.getD 0 ∧ lo.getD 0 ≤ hi.getD s.size ∧ hi.getD s.size ≤ s.size) ∧ K (s.extract (lo.getD 0).toNat (hi.getD s.size).toNat)
/-- x / y, x % y. -/
def xDiv (k : IntKind) (x y : Int) (K : Int → Prop) : Prop := y ≠ 0 ∧ K (k.wrap (x.tdiv y))
def xMod (x y : Int) (K : Int → Prop) : Prop := y ≠ 0 ∧ K (x.tmod y)
/-- x << n, x >> n. -/
def xShl (k : IntKind) (x n : Int) (K : Int → Prop) : Prop := 0 ≤ n ∧ K (k.wrap (x * 2 ^ (min n.toNat k.bits)))
def xShr (k : IntKind) (x n : Int) (K : Int → Prop) : Prop := 0 ≤ n ∧ K (x.fdiv (2 ^ (min n.toNat k.bits)))

/-- The first entry with a key, by what keys are made of: its place, and its value. -/
def findE : List MapEntry → Value → Nat → Option (Nat × Value)
  | [], _, _ => none
  | e :: es, k, i => if Instr.sameBits 10000 k e.key = true then some (i, e.val) else findE es k (i + 1)
/-- Keys of the make 'Sh' are found as they are made. -/
structure KeyLaw (P : Program) (key : TypeId) (Sh : Value → Prop) : Prop where
  check : ∀ k, Sh k → ∀ empty w, (Instr.checkKey empty 10000 key k).run P w = .ok () w
  find : ∀ k es, Sh k → (∀ e ∈ es, Sh (MapEntry.key e)) → ∀ w, (Instr.findKey key k es).run P w = .ok (findE es k 0) w
  symm : ∀ k k', Sh k → Sh k' → Instr.sameBits 10000 k k' = Instr.sameBits 10000 k' k
def mapGet (es : Array MapEntry) (k : Value) : Option Value := (findE es.toList k 0).map (·.2)
/-- A look into a map. -/
def xLook (P : Program) (key : TypeId) (h : PH) (m : Option Nat) (k : Value) (K : Option Value → Prop) : Prop :=
  (∃ r es cl Sh, m = some r ∧ h r = some (.map es cl) ∧ KeyLaw P key Sh ∧ Sh k ∧ (∀ e ∈ es.toList, Sh (MapEntry.key e)) ∧ K (mapGet es k)) ∨ (m = none ∧ ∃ Sh, KeyLaw P key Sh ∧ Sh k ∧ K none)
def zeroOf (P : Program) (t : TypeId) : Option Value := (P.info? t).bind (·.zero)
/-- The entry that the last step came to. -/
def xEntry (h : PH) (r : Nat) (K : Value → Value → Prop) : Prop :=
  ∃ m since seen last es e stamp, h r = some (.mapIter (some m) since seen last) ∧ Array.back? seen = some stamp ∧ h m = some (.map es last) ∧ Array.find? (fun e => MapEntry.born e == stamp) es = some e ∧ K e.key e.val
/-- How many entries a map has. -/
def xLen (h : PH) (m : Option Nat) (K : Int → Prop) : Prop := (∃ r es cl, m = some r ∧ h r = some (.map es cl) ∧ K es.size) ∨ (m = none ∧ K 0)
/-- Not nil. -/
def xNn (p : Option Addr) (K : Addr → Prop) : Prop := ∃ a, p = some a ∧ K a
def optInt : Option Value → Option (Option Int)
  | none => some none
  | some (.int _ n) => some (some n)
  | _ => none

/-- Two rows of cells, of a type that is compared by its cells, are compared. -/
structure EqLaw (P : Program) (t : TypeId) (x y : Value) (b : Bool) : Prop where
  guard : P.eqGuardType P.depth t = false
  run : ∀ w, (Op.equal t x y).run P w = .ok b w
def xEq (P : Program) (t : TypeId) (x y : Value) (K : Bool → Prop) : Prop := ∃ b, EqLaw P t x y b ∧ K b
/-- Two texts, one behind the other. -/
def xCat (x y : ByteArray) (K : ByteArray → Prop) : Prop := x.size + y.size ≤ 4611686018427387904 ∧ K (x ++ y)

/-- What such an operation asks of what is known of memory, and its value. -/
def fRaw (P : Program) (o : Oper) (ρ : Operand → Value) (h : PH) (K : Value → Prop) : Prop :=
  match o.op with
  | .load t a =>
    match P.underlying t, ρ a with
    | some _, .pointer (some p) => oLoad (leafOf P t) h p K
    | _, _ => False
  | .nilCheck x =>
    match ρ x with
    | .pointer p => xNn p fun a => K (.pointer (some a))
    | _ => False
  | .fieldAddr s x f =>
    match ρ x, P.underlying s with
    | .pointer (some a), some (.struct fs) => (match fs[f]? with
      | some fd => (match P.cellsOf fd.type with | 0 => False | _ + 1 => K (.pointer (some (a.add fd.offset))))
      | none => False)
    | _, _ => False
  | .indexAddr t x i =>
    match P.underlying t, ρ x, ρ i with
    | some (.slice el), .slice base len _, .int _ n => if P.cellsOf el = 0 then False else xIdx base len n (P.cellsOf el) fun a => K (.pointer (some a))
    | some (.array len el), .pointer (some a), .int _ n => if P.cellsOf el = 0 then False else xIdxA a len n (P.cellsOf el) fun a => K (.pointer (some a))
    | _, _, _ => False
  | .index t x i =>
    match P.underlying t, ρ x, ρ i with
    | some .string, .string s, .int _ n => xByte s n fun b => K (.int .u8 b)
    | _, _, _ => False
  | .slice t x lo hi none =>
    match P.underlying t, ρ x, optInt (lo.map ρ), optInt (hi.map ρ) with
    | some (.slice el), .slice base len cap, some l, some m => if P.cellsOf el = 0 then False else xSlice base len cap (P.cellsOf el) l m fun a n c => K (.slice a n c)
    | some .string, .string s, some l, some m => xSub s l m fun r => K (.string r)
    | _, _, _, _ => False
  | .lookup t x ix ok =>
    match P.underlying t with
    | some (.map key el) => (match zeroOf P el, ρ x with
      | some z, .map m => xLook P key h m (ρ ix) fun v => oVal (leafOf P el) (v.getD z) fun u => (match ok with | true => K (.tuple #[u, .bool v.isSome]) | false => K u)
      | _, _ => False)
    | _ => False
  | .entry it =>
    match ρ it with
    | .pointer (some ⟨r, 0, none⟩) => xEntry h r fun k u => K (.tuple #[k, u])
    | _ => False
  | .extract t i =>
    match ρ t with
    | .tuple vs => (match vs[i]? with
      | some v => oVal (leafOf P o.type) v K
      | none => False)
    | _ => False
  | .call { callee := .builtin .len, args := as, argTypes := ts } =>
    match ts[0]?, as[0]? with
    | some t, some x => (match P.underlying t, ρ x with
      | some (.map _ _), .map m => xLen h m fun n => K (.int .i64 n)
      | _, _ => match val? P (execOp ρ o) with
        | some (.value v) => K v
        | _ => False)
    | _, _ => False
  | .binOp op xt x y _ =>
    match op, ρ x, ρ y with
    | .eql, .agg a, .agg b => xEq P xt (.agg a) (.agg b) fun r => K (.bool r)
    | .neq, .agg a, .agg b => xEq P xt (.agg a) (.agg b) fun r => K (.bool (!r))
    | .eql, .pointer p, .pointer none => (match P.underlying xt with | some (.pointer _) => K (.bool (Option.isNone p)) | _ => False)
    | .neq, .pointer p, .pointer none => (match P.underlying xt with | some (.pointer _) => K (.bool (!(Option.isNone p))) | _ => False)
    | .eql, .slice p _ _, .slice none _ _ => (match P.underlying xt with | some (.slice _) => K (.bool (Option.isNone p)) | _ => False)
    | .neq, .slice p _ _, .slice none _ _ => (match P.underlying xt with | some (.slice _) => K (.bool (!(Option.isNone p))) | _ => False)
    | .eql, .map p, .map none => (match P.underlying xt with | some (.map _ _) => K (.bool (Option.isNone p)) | _ => False)
    | .neq, .map p, .map none => (match P.underlying xt with | some (.map _ _) => K (.bool (!(Option.isNone p))) | _ => False)
    | .add, .string a, .string b => xCat a b fun r => K (.string r)
    | .quo, .int k a, .int k' b => if k = k' then xDiv k a b fun n => K (.int k n) else False
    | .rem, .int k a, .int k' b => if k = k' then xMod a b fun n => K (.int k n) else False
    | .shl, .int k a, .int _ b => xShl k a b fun n => K (.int k n)
    | .shr, .int k a, .int _ b => xShr k a b fun n => K (.int k n)
    | _, _, _ => match val? P (execOp ρ o) with
      | some (.value v) => K v
      | _ => False
  | _ => match val? P (execOp ρ o) with
    | some (.value v) => K v
    | _ => False

def fOp (P : Program) (o : Oper) (e : Env) (h : PH) (K : Value → Prop) : Prop :=
  match known e o with
  | true => fRaw P o (evD e) h K
  | false => False

/-- A 'Sem' that yields 'v' in every world that has what 'h' says, and leaves it alone. -/
def Reads (P : Program) {α : Type} (s : Sem α) (h : PH) (v : α) : Prop := ∀ W w, St W h w → s.run P w = .ok v w

theorem Reads.pure {P : Program} {α : Type} {h : PH} (v : α) : Reads P (pure v : Sem α) h v := fun _ _ _ => rfl
theorem Reads.bind {P : Program} {α β : Type} {s : Sem α} {f : α → Sem β} {h : PH} {v : α} {u : β} (x : Reads P s h v) (y : Reads P (f v) h u) : Reads P (s >>= f) h u :=
  fun W w st => by rw [Sem.run_bind, x W w st]; exact y W w st
theorem Reads.of_val? {P : Program} {α : Type} {s : Sem α} {h : PH} {v : α} (x : val? P s = some v) : Reads P s h v := fun _ w _ => val?_run P s v x w
theorem Reads.load {P : Program} {h : PH} {a : Addr} {v : Value} (hc : h.cell a = some v) : Reads P (load a) h v := fun W w st => by
  show Sem.run P (.load .plain a .pure) w = _
  simp only [Sem.run, st.cell hc]

theorem reads_underlying {P : Program} {h : PH} {t : TypeId} {d : TypeDesc} (hd : P.underlying t = some d) : Reads P (underlying t) h d := by
  apply Reads.of_val?
  show val? P (match P.underlying t with | some d => Pure.pure d | none => stuck "no such type") = _
  rw [hd]; rfl
theorem reads_sizeOf {P : Program} {h : PH} {t : TypeId} (hd : (P.info? t).isSome = true) : Reads P (sizeOf t) h (P.cellsOf t) := by
  obtain ⟨i, hi⟩ := Option.isSome_iff_exists.1 hd
  apply Reads.of_val?
  show val? P (Sem.bind (match P.info? t with | some i => Pure.pure i | none => stuck "no such type") fun i => Pure.pure i.size) = _
  rw [hi]; simp only [Program.cellsOf, hi]; rfl

end Go.Sx
