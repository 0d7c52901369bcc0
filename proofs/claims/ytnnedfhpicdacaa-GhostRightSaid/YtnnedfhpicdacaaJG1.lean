/-
  SX, part 1: a symbolic, world-free reading of the operations: partial heaps, what an operation's 'Sem' asks of one, and that this is sound.
-/
import Derived.Orders
import Derived.OrdersHeld
import Derived.LoopN
import Derived.KernelRfl
import Derived.Laws.Sem
import Derived.Laws.World

namespace Go.Sx
open Go

/-- What is known of memory: some blocks, each with all that it holds. -/
abbrev PH := Nat → Option Obj
def PH.upd (h : PH) (b : Nat) (O : Obj) : PH := fun x => if x = b then some O else h x
def PH.del (h : PH) (b : Nat) : PH := fun x => if x = b then none else h x
def PH.cell (h : PH) (a : Addr) : Option Value :=
  match h a.block with
  | some (.cells c _ _) => if a.spot.isSome then none else c[a.off]?
  | _ => none
def PH.le (h h' : PH) : Prop := ∀ b O, h b = some O → h' b = some O

theorem PH.le_refl (h : PH) : h.le h := fun _ _ x => x
theorem PH.le_trans {a b c : PH} (x : a.le b) (y : b.le c) : a.le c := fun _ _ z => y _ _ (x _ _ z)
theorem PH.le_upd {h : PH} {b : Nat} {O : Obj} (hb : h b = none) : h.le (h.upd b O) := by
  intro x o hx
  unfold PH.upd
  split
  · rename_i e; subst e; rw [hb] at hx; cases hx
  · exact hx
theorem PH.le_upd_of {h g : PH} {b : Nat} {O : Obj} (hl : g.le h) (hb : h b = none) : g.le (h.upd b O) := PH.le_trans hl (PH.le_upd hb)
@[simp] theorem PH.upd_same (h : PH) (b : Nat) (O : Obj) : (h.upd b O) b = some O := by simp [PH.upd]
theorem PH.upd_ne (h : PH) {b x : Nat} (O : Obj) (e : x ≠ b) : (h.upd b O) x = h x := by simp [PH.upd, e]
theorem PH.cell_le {h h' : PH} (hl : h.le h') {a : Addr} {v : Value} (hc : h.cell a = some v) : h'.cell a = some v := by
  unfold PH.cell at *
  cases hb : h a.block with
  | none => simp [hb] at hc
  | some O => rw [hl _ _ hb]; rw [hb] at hc; exact hc

/-- The streams and the tape are as they were. -/
structure Quiet (w w' : World) : Prop where
  os : w'.os = w.os
  tape : w'.tape = w.tape
  output : w'.output = w.output
theorem Quiet.refl (w : World) : Quiet w w := ⟨rfl, rfl, rfl⟩
theorem Quiet.trans {a b c : World} (x : Quiet a b) (y : Quiet b c) : Quiet a c := ⟨y.os.trans x.os, y.tape.trans x.tape, y.output.trans x.output⟩

/-- The world 'w', reached from 'W', has at least what 'h' says. -/
structure St (W : World) (h : PH) (w : World) : Prop where
  q : Quiet W w
  sh : ∀ b O, h b = some O → w.heap[b]? = some O

theorem St.le {W : World} {h h' : PH} {w : World} (s : St W h' w) (l : h.le h') : St W h w := ⟨s.q, fun b O hb => s.sh b O (l b O hb)⟩
theorem St.cell {W : World} {h : PH} {w : World} (s : St W h w) {a : Addr} {v : Value} (hc : h.cell a = some v) : w.cell? a = some v := by
  unfold PH.cell at hc
  unfold World.cell?
  cases hb : h a.block with
  | none => simp [hb] at hc
  | some O => rw [s.sh _ _ hb]; rw [hb] at hc; exact hc
theorem St.fresh {W : World} {h : PH} {w : World} (s : St W h w) : h w.heap.size = none := by
  cases hb : h w.heap.size with
  | none => rfl
  | some O => have := s.sh _ _ hb; simp at this
theorem St.drawn {W : World} {h : PH} {w : World} (s : St W h w) (n : Nat) : St W h { w with drawn := n } := ⟨⟨s.q.os, s.q.tape, s.q.output⟩, s.sh⟩
theorem St.push {W : World} {h : PH} {w : World} (s : St W h w) (o : Obj) : St W (h.upd w.heap.size o) { w with heap := w.heap.push o } := by
  refine ⟨⟨s.q.os, s.q.tape, s.q.output⟩, fun b O hb => ?_⟩
  show (w.heap.push o)[b]? = some O
  unfold PH.upd at hb
  split at hb
  · rename_i e; subst e; simp at hb; subst hb; simp
  · have := s.sh b O hb
    have hlt : b < w.heap.size := (Array.getElem?_eq_some_iff.1 this).1
    rw [Array.getElem?_push, if_neg (by omega)]; exact this
theorem St.setObj {W : World} {h : PH} {w : World} (s : St W h w) (r : Nat) (o : Obj) (hr : r < w.heap.size) : St W (h.upd r o) { w with heap := w.heap.setIfInBounds r o } := by
  refine ⟨⟨s.q.os, s.q.tape, s.q.output⟩, fun b O hb => ?_⟩
  show (w.heap.setIfInBounds r o)[b]? = some O
  unfold PH.upd at hb
  split at hb
  · rename_i e; subst e; simp at hb; subst hb; simp [hr]
  · rename_i e; rw [Array.getElem?_setIfInBounds_ne (fun x => e x.symm)]; exact s.sh b O hb
theorem St.setCell {W : World} {h : PH} {w : World} (s : St W h w) {a : Addr} {c : Array Value} {el : TypeId} {fz : Nat × Nat} (hb : h a.block = some (.cells c el fz)) (hs : a.spot = none) (v : Value) :
    St W (h.upd a.block (.cells (c.setIfInBounds a.off v) el fz)) (w.setCell a v) := by
  have hw := s.sh _ _ hb
  refine ⟨⟨s.q.os, s.q.tape, s.q.output⟩, fun b O hO => ?_⟩
  show (w.heap.modify a.block _)[b]? = some O
  unfold PH.upd at hO
  rw [Array.getElem?_modify]
  split at hO
  · rename_i e; subst e; simp at hO; subst hO; simp [hw, hs]
  · rename_i e; rw [if_neg (fun x => e x.symm)]; exact s.sh b O hO

/-- One cell's value. -/
def oneCell : Value → Bool
  | .agg _ | .tuple _ => false
  | _ => true

def Obj.isCells : Obj → Bool
  | .cells .. => true
  | _ => false

/-- WHAT AN OPERATION ASKS OF MEMORY, AND WHAT IS KNOWN BEHIND IT: whatever a draw answers. -/
def dSem (P : Program) {α : Type} : Sem α → PH → (α → PH → Prop) → Prop
  | .pure a, h, K => K a h
  | .load _ a k, h, K => ∃ v, h.cell a = some v ∧ dSem P (k v) h K
  | .store _ a v k, h, K => oneCell v = true ∧ ∃ c el, h a.block = some (.cells c el (0, 0)) ∧ a.spot = none ∧ a.off < c.size ∧ dSem P k (h.upd a.block (.cells (c.setIfInBounds a.off v) el (0, 0))) K
  | .new o k, h, K => ∀ b, h b = none → dSem P (k b) (h.upd b o) K
  | .shape r k, h, K => ∃ c el fz, h r = some (.cells c el fz) ∧ dSem P (k (some (el, c.size))) h K
  | .freeze _ _ _, _, _ => False
  | .frozen a k, h, K => ∃ c el, h a.block = some (.cells c el (0, 0)) ∧ dSem P (k false) h K
  | .getObj r k, h, K => ∃ O, h r = some O ∧ Obj.isCells O = false ∧ dSem P (k O) h K
  | .setObj r o k, h, K => ∃ O, h r = some O ∧ Obj.isCells O = false ∧ dSem P k (h.upd r o) K
  | .choose q k, h, K => ∀ n, (q.forced = true → n = 0) → (q.forced = false → ∃ t, n = q.cut t) → dSem P (k n) h K
  | .sys _ _, _, _ => False
  | .program k, h, K => dSem P (k P) h K
  | .mark _ k, h, K => dSem P k h K
  | .halt _, _, _ => False

theorem dSem_sound (P : Program) {W : World} {α : Type} (s : Sem α) : ∀ (h : PH) (K : α → PH → Prop) (w : World), dSem P s h K → St W h w → ∃ a w' h', s.run P w = .ok a w' ∧ St W h' w' ∧ K a h' := by
  induction s with
  | pure a => exact fun h K w hd hs => ⟨a, w, h, rfl, hs, hd⟩
  | load m a k ih =>
    intro h K w hd hs
    obtain ⟨v, hv, hd⟩ := hd
    obtain ⟨x, w', h', hr, r⟩ := ih v h K w hd hs
    exact ⟨x, w', h', by simp only [Sem.run, hs.cell hv]; exact hr, r⟩
  | store m a v k ih =>
    intro h K w hd hs
    obtain ⟨ho, c, el, hb, hsp, hlt, hd⟩ := hd
    have hw := hs.sh _ _ hb
    obtain ⟨x, w', h', hr, r⟩ := ih _ K _ hd (hs.setCell hb hsp v)
    refine ⟨x, w', h', ?_, r⟩
    have hcell : w.cell? a = some c[a.off] := by unfold World.cell?; simp [hw, hsp, hlt]
    have hfz : w.frozen? a = false := by unfold World.frozen?; simp [hw]
    cases v <;> simp only [oneCell, Bool.false_eq_true] at ho <;> simp only [Sem.run, hcell, hfz, Bool.false_eq_true, if_false] <;> exact hr
  | new o k ih =>
    intro h K w hd hs
    obtain ⟨x, w', h', hr, r⟩ := ih _ _ K _ (hd w.heap.size hs.fresh) (hs.push o)
    exact ⟨x, w', h', hr, r⟩
  | shape r k ih =>
    intro h K w hd hs
    obtain ⟨c, el, fz, hb, hd⟩ := hd
    obtain ⟨x, w', h', hr, r'⟩ := ih _ h K w hd hs
    exact ⟨x, w', h', by simp only [Sem.run, World.shape?, hs.sh _ _ hb]; exact hr, r'⟩
  | freeze a n k ih => intro h K w hd; exact hd.elim
  | frozen a k ih =>
    intro h K w hd hs
    obtain ⟨c, el, hb, hd⟩ := hd
    obtain ⟨x, w', h', hr, r'⟩ := ih _ h K w hd hs
    refine ⟨x, w', h', ?_, r'⟩
    have hfz : w.frozen? a = false := by unfold World.frozen?; simp [hs.sh _ _ hb]
    simp only [Sem.run, hfz]; exact hr
  | getObj r k ih =>
    intro h K w hd hs
    obtain ⟨O, hb, hc, hd⟩ := hd
    obtain ⟨x, w', h', hr, r'⟩ := ih _ h K w hd hs
    refine ⟨x, w', h', ?_, r'⟩
    simp only [Sem.run, hs.sh _ _ hb]
    cases O <;> simp only [Obj.isCells, Bool.true_eq_false] at hc <;> exact hr
  | setObj r o k ih =>
    intro h K w hd hs
    obtain ⟨O, hb, hc, hd⟩ := hd
    have hw := hs.sh _ _ hb
    have hlt : r < w.heap.size := (Array.getElem?_eq_some_iff.1 hw).1
    obtain ⟨x, w', h', hr, r'⟩ := ih _ K _ hd (hs.setObj r o hlt)
    refine ⟨x, w', h', ?_, r'⟩
    simp only [Sem.run, hw]
    cases O <;> simp only [Obj.isCells, Bool.true_eq_false] at hc <;> exact hr
  | choose q k ih =>
    intro h K w hd hs
    by_cases hq : q.forced = true
    · obtain ⟨x, w', h', hr, r⟩ := ih 0 h K w (hd 0 (fun _ => rfl) (fun e => by rw [hq] at e; cases e)) hs
      exact ⟨x, w', h', by simp only [Sem.run, hq, if_true]; exact hr, r⟩
    · obtain ⟨x, w', h', hr, r⟩ := ih _ h K _ (hd (q.cut (w.tape w.drawn q)) (fun e => absurd e hq) (fun _ => ⟨_, rfl⟩)) (hs.drawn (w.drawn + 1))
      exact ⟨x, w', h', by simp only [Sem.run, hq]; exact hr, r⟩
  | sys c k ih => intro h K w hd; exact hd.elim
  | program k ih => exact fun h K w hd hs => ih P h K w hd hs
  | mark m k ih =>
    intro h K w hd hs
    obtain ⟨x, w', h', hr, r⟩ := ih h K w hd hs
    exact ⟨x, w', h', by simp only [Sem.run]; exact hr, r⟩
  | halt x => intro h K w hd; exact hd.elim

theorem dSem_bind (P : Program) {α β : Type} (s : Sem α) (f : α → Sem β) : ∀ (h : PH) (K : β → PH → Prop), dSem P s h (fun a h' => dSem P (f a) h' K) → dSem P (s >>= f) h K := by
  show ∀ (h : PH) (K : β → PH → Prop), dSem P s h (fun a h' => dSem P (f a) h' K) → dSem P (s.bind f) h K
  induction s with
  | pure a => exact fun h K hd => hd
  | load m a k ih => exact fun h K ⟨v, hv, hd⟩ => ⟨v, hv, ih v _ _ hd⟩
  | store m a v k ih => exact fun h K ⟨ho, c, el, hb, hsp, hlt, hd⟩ => ⟨ho, c, el, hb, hsp, hlt, ih _ _ hd⟩
  | new o k ih => exact fun h K hd b hb => ih b _ _ (hd b hb)
  | shape r k ih => exact fun h K ⟨c, el, fz, hb, hd⟩ => ⟨c, el, fz, hb, ih _ _ _ hd⟩
  | freeze a n k ih => exact fun h K hd => hd.elim
  | frozen a k ih => exact fun h K ⟨c, el, hb, hd⟩ => ⟨c, el, hb, ih _ _ _ hd⟩
  | getObj r k ih => exact fun h K ⟨O, hb, hc, hd⟩ => ⟨O, hb, hc, ih _ _ _ hd⟩
  | setObj r o k ih => exact fun h K ⟨O, hb, hc, hd⟩ => ⟨O, hb, hc, ih _ _ hd⟩
  | choose q k ih => exact fun h K hd n h1 h2 => ih n _ _ (hd n h1 h2)
  | sys c k ih => exact fun h K hd => hd.elim
  | program k ih => exact fun h K hd => ih P _ _ hd
  | mark m k ih => exact fun h K hd => ih _ _ hd
  | halt x => exact fun h K hd => hd.elim

theorem dSem_mono (P : Program) {α : Type} (s : Sem α) : ∀ (h : PH) (K K' : α → PH → Prop), dSem P s h K → (∀ a h', K a h' → K' a h') → dSem P s h K' := by
  induction s with
  | pure a => exact fun h K K' hd m => m _ _ hd
  | load m a k ih => exact fun h K K' ⟨v, hv, hd⟩ m => ⟨v, hv, ih v _ _ _ hd m⟩
  | store m a v k ih => exact fun h K K' ⟨ho, c, el, hb, hsp, hlt, hd⟩ m => ⟨ho, c, el, hb, hsp, hlt, ih _ _ _ hd m⟩
  | new o k ih => exact fun h K K' hd m b hb => ih b _ _ _ (hd b hb) m
  | shape r k ih => exact fun h K K' ⟨c, el, fz, hb, hd⟩ m => ⟨c, el, fz, hb, ih _ _ _ _ hd m⟩
  | freeze a n k ih => exact fun h K K' hd => hd.elim
  | frozen a k ih => exact fun h K K' ⟨c, el, hb, hd⟩ m => ⟨c, el, hb, ih _ _ _ _ hd m⟩
  | getObj r k ih => exact fun h K K' ⟨O, hb, hc, hd⟩ m => ⟨O, hb, hc, ih _ _ _ _ hd m⟩
  | setObj r o k ih => exact fun h K K' ⟨O, hb, hc, hd⟩ m => ⟨O, hb, hc, ih _ _ _ hd m⟩
  | choose q k ih => exact fun h K K' hd m n h1 h2 => ih n _ _ _ (hd n h1 h2) m
  | sys c k ih => exact fun h K K' hd => hd.elim
  | program k ih => exact fun h K K' hd m => ih P _ _ _ hd m
  | mark m k ih => exact fun h K K' hd m => ih _ _ _ hd m
  | halt x => exact fun h K K' hd => hd.elim

/-- What a 'Sem' comes to that looks at the program's tables alone. -/
def val? (P : Program) {α : Type} : Sem α → Option α
  | .pure a => some a
  | .program k => val? P (k P)
  | _ => none

theorem val?_run (P : Program) {α : Type} (s : Sem α) : ∀ (a : α), val? P s = some a → ∀ w, s.run P w = .ok a w := by
  induction s with
  | pure a => intro b h w; simp only [val?, Option.some.injEq] at h; subst h; rfl
  | program k ih => intro b h w; exact ih P b h w
  | _ => intro b h; simp [val?] at h

/-! ### Contracts -/

/-- The function returns, wherever memory has at least what 'h' says: 'Q' of what it returns and of what is known of memory behind it. -/
def Meets (P : Program) (f : FuncId) (args : Array Value) (h : PH) (Q : Value → PH → Prop) : Prop :=
  ∀ W w, St W h w → Calls P f args w fun e w' => ∃ v h', e = .returned v ∧ St W h' w' ∧ Q v h'

theorem Meets.mono {P : Program} {f : FuncId} {args : Array Value} {h : PH} {Q Q' : Value → PH → Prop} (s : Meets P f args h Q) (m : ∀ v h', Q v h' → Q' v h') : Meets P f args h Q' :=
  fun W w hs => (s W w hs).mono fun _ _ ⟨v, h', he, hs', hq⟩ => ⟨v, h', he, hs', m _ _ hq⟩

end Go.Sx

/-
  SX, part 2: the kinds of cells, typed loads; the slots' known values; the operations that only read ('fRaw') and those that do not ('gRaw'), and that their reading is sound.
-/
namespace Go.Sx
open Go

/-! ### The shapes of cells -/
inductive At where
  | int (k : IntKind) | bool | str | ptr | slice | map | any
inductive Leaf where
  | one (a : At) | agg (l : List At) | big (n : Nat)

def At.fn : At → Type → Type
  | .int _, T => Int → T
  | .bool, T => Bool → T
  | .str, T => ByteArray → T
  | .ptr, T => Option Addr → T
  | .slice, T => Option Addr → Nat → Nat → T
  | .map, T => Option Nat → T
  | .any, T => Value → T

/-- What a cell, or a result, is of: an integer .. -/
def oI (k : IntKind) (c : Option Value) (K : Int → Prop) : Prop := ∃ n, c = some (.int k n) ∧ K n
def oB (c : Option Value) (K : Bool → Prop) : Prop := ∃ n, c = some (.bool n) ∧ K n
def oT (c : Option Value) (K : ByteArray → Prop) : Prop := ∃ n, c = some (.string n) ∧ K n
def oP (c : Option Value) (K : Option Addr → Prop) : Prop := ∃ n, c = some (.pointer n) ∧ K n
def oS (c : Option Value) (K : Option Addr → Nat → Nat → Prop) : Prop := ∃ a l m, c = some (.slice a l m) ∧ K a l m
def oM (c : Option Value) (K : Option Nat → Prop) : Prop := ∃ n, c = some (.map n) ∧ K n
def oV (c : Option Value) (K : Value → Prop) : Prop := ∃ n, c = some n ∧ K n

@[simp] theorem oI_some (k : IntKind) (n : Int) (K : Int → Prop) : oI k (some (.int k n)) K ↔ K n := ⟨fun ⟨m, e, hK⟩ => by simp at e; subst e; exact hK, fun hK => ⟨n, rfl, hK⟩⟩
@[simp] theorem oB_some (n : Bool) (K : Bool → Prop) : oB (some (.bool n)) K ↔ K n := ⟨fun ⟨m, e, hK⟩ => by simp at e; subst e; exact hK, fun hK => ⟨n, rfl, hK⟩⟩
@[simp] theorem oT_some (n : ByteArray) (K : ByteArray → Prop) : oT (some (.string n)) K ↔ K n := ⟨fun ⟨m, e, hK⟩ => by simp at e; subst e; exact hK, fun hK => ⟨n, rfl, hK⟩⟩
@[simp] theorem oP_some (n : Option Addr) (K : Option Addr → Prop) : oP (some (.pointer n)) K ↔ K n := ⟨fun ⟨m, e, hK⟩ => by simp at e; subst e; exact hK, fun hK => ⟨n, rfl, hK⟩⟩
@[simp] theorem oS_some (a : Option Addr) (l m : Nat) (K : Option Addr → Nat → Nat → Prop) : oS (some (.slice a l m)) K ↔ K a l m :=
  ⟨fun ⟨a', l', m', e, hK⟩ => by simp at e; obtain ⟨rfl, rfl, rfl⟩ := e; exact hK, fun hK => ⟨a, l, m, rfl, hK⟩⟩
@[simp] theorem oM_some (n : Option Nat) (K : Option Nat → Prop) : oM (some (.map n)) K ↔ K n := ⟨fun ⟨m, e, hK⟩ => by simp at e; subst e; exact hK, fun hK => ⟨n, rfl, hK⟩⟩
@[simp] theorem oV_some (n : Value) (K : Value → Prop) : oV (some n) K ↔ K n := ⟨fun ⟨m, e, hK⟩ => by simp at e; subst e; exact hK, fun hK => ⟨n, rfl, hK⟩⟩

def oAt : At → Option Value → (Value → Prop) → Prop
  | .int k, c, K => oI k c fun n => K (.int k n)
  | .bool, c, K => oB c fun n => K (.bool n)
  | .str, c, K => oT c fun n => K (.string n)
  | .ptr, c, K => oP c fun n => K (.pointer n)
  | .slice, c, K => oS c fun a l m => K (.slice a l m)
  | .map, c, K => oM c fun n => K (.map n)
  | .any, c, K => oV c fun n => K n

theorem oAt_some {a : At} {c : Option Value} {K : Value → Prop} (h : oAt a c K) : ∃ v, c = some v ∧ K v := by
  cases a <;> simp only [oAt, oI, oB, oT, oP, oS, oM, oV] at h
  case slice => obtain ⟨a, l, m, e, hK⟩ := h; exact ⟨_, e, hK⟩
  all_goals (obtain ⟨n, e, hK⟩ := h; exact ⟨_, e, hK⟩)

/-- Cells in a row. -/
def oRow (c : Nat → Option Value) : List At → Nat → (List Value → Prop) → Prop
  | [], _, K => K []
  | x :: xs, i, K => oAt x (c i) fun v => oRow c xs (i + 1) fun vs => K (v :: vs)

theorem oRow_some {c : Nat → Option Value} : ∀ {l : List At} {i : Nat} {K : List Value → Prop}, oRow c l i K → ∃ vs, vs.length = l.length ∧ (∀ j, j < l.length → c (i + j) = vs[j]?) ∧ K vs
  | [], _, _, h => ⟨[], rfl, fun j hj => absurd hj (Nat.not_lt_zero j), h⟩
  | x :: xs, i, K, h => by
    obtain ⟨v, hv, h⟩ := oAt_some h
    obtain ⟨vs, hl, hc, hK⟩ := oRow_some h
    refine ⟨v :: vs, by simp [hl], fun j hj => ?_, hK⟩
    cases j with
    | zero => simpa using hv
    | succ j => have := hc j (by simpa using hj); simpa [Nat.add_assoc, Nat.add_comm 1 j] using this

/-- A long row of cells. -/
def oBig (h : PH) (a : Addr) (n : Nat) (K : Array Value → Prop) : Prop := ∃ cs : Array Value, cs.size = n ∧ (∀ i, i < n → h.cell (a.add i) = cs[i]?) ∧ K cs

def oLoad : Leaf → PH → Addr → (Value → Prop) → Prop
  | .one x, h, a, K => oAt x (h.cell a) K
  | .agg l, h, a, K => oRow (fun i => h.cell (a.add i)) l 0 fun vs => K (.agg vs.toArray)
  | .big n, h, a, K => oBig h a n fun cs => K (.agg cs)

/-- A value of a shape, typed: a call's result. -/
def oVal : Leaf → Value → (Value → Prop) → Prop
  | .one x, v, K => oAt x (some v) K
  | .agg l, v, K => ∃ cs : Array Value, v = .agg cs ∧ cs.size = l.length ∧ oRow (fun i => cs[i]?) l 0 fun vs => K (.agg vs.toArray)
  | .big n, v, K => ∃ cs : Array Value, v = .agg cs ∧ cs.size = n ∧ K (.agg cs)

def oVals (c : Nat → Option Value) : List Leaf → Nat → (List Value → Prop) → Prop
  | [], _, K => K []
  | x :: xs, i, K => ∃ w, c i = some w ∧ oVal x w fun v => oVals c xs (i + 1) fun vs => K (v :: vs)

theorem oVal_same {l : Leaf} {v : Value} {K : Value → Prop} (h : oVal l v K) : K v := by
  cases l with
  | one x => obtain ⟨u, e, hK⟩ := oAt_some h; simp at e; subst e; exact hK
  | agg l =>
    obtain ⟨cs, rfl, hn, h⟩ := h
    obtain ⟨vs, hl, hc, hK⟩ := oRow_some h
    have : cs = vs.toArray := by
      apply Array.ext (by simp [hn, hl])
      intro i h1 h2
      have := hc i (by omega)
      simp at this
      rw [Array.getElem?_eq_getElem h1, List.getElem?_eq_getElem (by simpa using h2)] at this
      simpa using this
    rw [this]; exact hK
  | big n => obtain ⟨cs, rfl, _, hK⟩ := h; exact hK

theorem oVals_same {c : Nat → Option Value} : ∀ {l : List Leaf} {i : Nat} {K : List Value → Prop}, oVals c l i K → ∃ vs, vs.length = l.length ∧ (∀ j, j < l.length → c (i + j) = vs[j]?) ∧ K vs
  | [], _, _, h => ⟨[], rfl, fun j hj => absurd hj (Nat.not_lt_zero j), h⟩
  | x :: xs, i, K, h => by
    obtain ⟨w, hw, h⟩ := h
    obtain ⟨vs, hl, hc, hK⟩ := oVals_same (oVal_same h)
    refine ⟨w :: vs, by simp [hl], fun j hj => ?_, hK⟩
    cases j with
    | zero => simpa using hw
    | succ j => have := hc j (by simpa using hj); simpa [Nat.add_assoc, Nat.add_comm 1 j] using this

/-- A call's result, of whatever many. -/
def oRes : List Leaf → Value → (Value → Prop) → Prop
  | [x], v, K => oVal x v K
  | l, v, K => ∃ cs : Array Value, v = .tuple cs ∧ cs.size = l.length ∧ oVals (fun i => cs[i]?) l 0 fun vs => K (.tuple vs.toArray)

theorem oRes_same {l : List Leaf} {v : Value} {K : Value → Prop} (h : oRes l v K) : K v := by
  unfold oRes at h
  split at h
  · exact oVal_same h
  · obtain ⟨cs, rfl, hn, h⟩ := h
    obtain ⟨vs, hl, hc, hK⟩ := oVals_same h
    have : cs = vs.toArray := by
      apply Array.ext (by simp [hn, hl])
      intro i h1 h2
      have := hc i (by omega)
      simp at this
      rw [Array.getElem?_eq_getElem h1, List.getElem?_eq_getElem (by simpa using h2)] at this
      simpa using this
    rw [this]; exact hK

/-! ### The shape of a type -/
def atOf (d : Option TypeDesc) : Option At :=
  match d with
  | some (.int k) => some (.int k)
  | some .bool => some .bool
  | some .string => some .str
  | some (.pointer _) => some .ptr
  | some (.slice _) => some .slice
  | some (.map _ _) => some .map
  | some (.struct _) | some (.array _ _) | some (.tuple _) | none => none
  | _ => some .any

/-- The cells of a type, flat. -/
def atsOf (P : Program) : Nat → TypeId → Option (List At)
  | 0, _ => none
  | d + 1, t =>
    match P.underlying t with
    | some (.struct fs) => fs.toList.foldr (fun f acc => match atsOf P d f.type, acc with | some x, some y => some (x ++ y) | _, _ => none) (some [])
    | some (.array n e) => match atsOf P d e with
      | some x => some (List.replicate n x).flatten
      | none => none
    | u => match atOf u with
      | some a => some [a]
      | none => none

def maxAgg : Nat := 24

def leafOf (P : Program) (t : TypeId) : Leaf :=
  match P.underlying t with
  | some (.struct _) | some (.array _ _) => if P.cellsOf t ≤ maxAgg then (match atsOf P 10 t with | some l => if l.length = P.cellsOf t then .agg l else .big (P.cellsOf t) | none => .big (P.cellsOf t)) else .big (P.cellsOf t)
  | u => .one ((atOf u).getD .any)

def resOf (P : Program) (t : TypeId) : List Leaf :=
  match P.underlying t with
  | some (.tuple ts) => ts.toList.map (leafOf P)
  | _ => [leafOf P t]

/-! ### The slots -/
abbrev Env := List (Nat × Value)
def Env.get : Env → Nat → Option Value
  | [], _ => none
  | (s, v) :: r, t => bif Nat.beq s t then some v else Env.get r t
def ev (e : Env) : Operand → Option Value
  | .tmp t => e.get t
  | .const v => some v
  | .global g => some (.pointer (some ⟨g, 0, none⟩))
  | .func f => some (.func (.func f) #[] #[])
def evD (e : Env) (x : Operand) : Value := (ev e x).getD undef
def Env.put (e : Env) (d : Option Nat) (v : Value) : Env := match d with | some t => (t, v) :: e | none => e
def Env.drop (e : Env) (D : List Nat) : Env := e.filter fun p => !D.any (Nat.beq p.1)

structure Fits (e : Env) (a : Act) : Prop where
  g : ∀ t v, e.get t = some v → a.tmps[t]? = some v

theorem Env.get_cons (e : Env) (s : Nat) (v : Value) (t : Nat) : Env.get ((s, v) :: e) t = if s = t then some v else e.get t := by
  simp only [Env.get]
  by_cases h : s = t
  · subst h; simp
  · have : Nat.beq s t = false := by
      cases hb : Nat.beq s t with
      | false => rfl
      | true => exact absurd (Nat.eq_of_beq_eq_true hb) h
    simp [this, h]

theorem Env.get_drop {e : Env} {D : List Nat} {t : Nat} {v : Value} (h : (e.drop D).get t = some v) : t ∉ D ∧ e.get t = some v := by
  induction e with
  | nil => simp [Env.drop, Env.get] at h
  | cons p r ih =>
    obtain ⟨s, u⟩ := p
    unfold Env.drop at h
    rw [List.filter_cons] at h
    by_cases hs : (!D.any (Nat.beq s)) = true
    · simp only [hs, if_true] at h
      rw [Env.get_cons] at h
      rw [Env.get_cons]
      by_cases e : s = t
      · subst e
        simp only [if_true] at h ⊢
        refine ⟨fun hm => ?_, h⟩
        simp only [Bool.not_eq_true', List.any_eq_false] at hs
        exact hs s hm (by simp)
      · simp only [e, if_false] at h ⊢
        exact ih h
    · have hs' : (!D.any (Nat.beq s)) = false := by simpa using hs
      simp only [hs', Bool.false_eq_true, if_false] at h
      obtain ⟨h1, h2⟩ := ih h
      refine ⟨h1, ?_⟩
      rw [Env.get_cons]
      split
      · rename_i e; subst e
        simp only [Bool.not_eq_false', List.any_eq_true] at hs'
        obtain ⟨x, hx, hb⟩ := hs'
        have : s = x := Nat.eq_of_beq_eq_true hb
        subst this
        exact absurd hx h1
      · exact h2

theorem Fits.ev {e : Env} {a : Act} (f : Fits e a) {x : Operand} {v : Value} (h : Sx.ev e x = some v) : a.eval x = v := by
  cases x with
  | tmp t =>
    have := f.g t v h
    simp [Array.getElem?_eq_some_iff] at this
    obtain ⟨h1, h2⟩ := this
    simp [Act.eval, Array.getD, h1, h2]
  | const u => simpa [Sx.ev, Act.eval] using h
  | global g => simpa [Sx.ev, Act.eval] using h
  | func f => simpa [Sx.ev, Act.eval] using h

/-- Slot 'd' is there, in the frame. -/
theorem Fits.put {e : Env} {a : Act} (f : Fits e a) (d : Option Nat) (v : Value) (hd : ∀ t, d = some t → t < a.tmps.size) : Fits (e.put d v) (a.put d v) := by
  cases d with
  | none => exact f
  | some t =>
    have ht := hd t rfl
    refine ⟨fun s u hs => ?_⟩
    simp only [Env.put, Env.get_cons] at hs
    show (a.tmps.setIfInBounds t v)[s]? = some u
    split at hs
    · rename_i e; subst e; simp at hs; subst hs; simp [ht]
    · rename_i e; rw [Array.getElem?_setIfInBounds_ne e]; exact f.g s u hs

def isSel : Op → Bool
  | .select .. => true
  | _ => false
/-- All that the operation looks at is known. -/
def known (e : Env) (o : Oper) : Bool := !isSel o.op && o.op.operands.all fun x => (ev e x).isSome

theorem known_exec {e : Env} {a : Act} {o : Oper} (f : Fits e a) (h : known e o = true) : execOp a.eval o = execOp (evD e) o := by
  simp only [known, Bool.and_eq_true] at h
  refine execOp_congr o (fun cs b hc => by rw [hc] at h; simp [isSel] at h) fun x hx => ?_
  have := Array.all_eq_true_iff_forall_mem.1 h.2 x hx
  obtain ⟨v, hv⟩ := Option.isSome_iff_exists.1 this
  rw [f.ev hv]; simp [evD, hv]

/-! ### What an operation that only reads yields -/

/-- An index within a length; its place. -/
def xIdx (base : Option Addr) (len : Nat) (i : Int) (size : Nat) (K : Addr → Prop) : Prop := ∃ a, base = some a ∧ 0 ≤ i ∧ i < len ∧ K (a.add (i.toNat * size))
def xIdxA (a : Addr) (len : Nat) (i : Int) (size : Nat) (K : Addr → Prop) : Prop := (0 ≤ i ∧ i < len) ∧ K (a.add (i.toNat * size))
/-- A byte of a string. -/
def xByte (s : ByteArray) (i : Int) (K : Int → Prop) : Prop := ∃ b : UInt8, 0 ≤ i ∧ s[i.toNat]? = some b ∧ K b.toNat
/-- s[l:h] of a slice of elements of so many cells. -/
def xSlice (base : Option Addr) (len cap : Nat) (size : Nat) (lo hi : Option Int) (K : Option Addr → Nat → Nat → Prop) : Prop :=
  (0 ≤ lo.getD 0 ∧ lo.getD 0 ≤ hi.getD len ∧ hi.getD len ≤ cap) ∧
    K (if cap = (lo.getD 0).toNat then base else base.map (·.add ((lo.getD 0).toNat * size))) ((hi.getD len).toNat - (lo.getD 0).toNat) (cap - (lo.getD 0).toNat)
/-- s[l:h] of a string. -/
def xSub (s : ByteArray) (lo hi : Option Int) (K : ByteArray → Prop) : Prop :=
  (0 ≤ lo.getD 0 ∧ lo.getD 0 ≤ hi.getD s.size ∧ hi.getD s.size ≤ s.size) ∧ K (s.extract (lo.getD 0).toNat (hi.getD s.size).toNat)
/-- x / y, x % y. -/
def xDiv (k : IntKind) (x y : Int) (K : Int → Prop) : Prop := y ≠ 0 ∧ K (k.wrap (x.tdiv y))
def xMod (x y : Int) (K : Int → Prop) : Prop := y ≠ 0 ∧ K (x.tmod y)
/-- x << n, x >> n. -/
def xShl (k : IntKind) (x n : Int) (K : Int → Prop) : Prop := 0 ≤ n ∧ K (k.wrap (x * 2 ^ (min n.toNat k.bits)))
def xShr (k : IntKind) (x n : Int) (K : Int → Prop) : Prop := 0 ≤ n ∧ K (x.fdiv (2 ^ (min n.toNat k.bits)))

/-- The first entry with a key, by what keys are made of: its place, and its value. -/
def findE : List MapEntry → Value → Nat → Option (Nat × Value)
  | [], _, _ => none
  | e :: es, k, i => if Instr.sameBits 10000 k e.key = true then some (i, e.val) else findE es k (i + 1)
/-- Keys of the make 'Sh' are found as they are made. -/
structure KeyLaw (P : Program) (key : TypeId) (Sh : Value → Prop) : Prop where
  check : ∀ k, Sh k → ∀ empty w, (Instr.checkKey empty 10000 key k).run P w = .ok () w
  find : ∀ k es, Sh k → (∀ e ∈ es, Sh (MapEntry.key e)) → ∀ w, (Instr.findKey key k es).run P w = .ok (findE es k 0) w
  symm : ∀ k k', Sh k → Sh k' → Instr.sameBits 10000 k k' = Instr.sameBits 10000 k' k
def mapGet (es : Array MapEntry) (k : Value) : Option Value := (findE es.toList k 0).map (·.2)
/-- A look into a map. -/
def xLook (P : Program) (key : TypeId) (h : PH) (m : Option Nat) (k : Value) (K : Option Value → Prop) : Prop :=
  (∃ r es cl Sh, m = some r ∧ h r = some (.map es cl) ∧ KeyLaw P key Sh ∧ Sh k ∧ (∀ e ∈ es.toList, Sh (MapEntry.key e)) ∧ K (mapGet es k)) ∨ (m = none ∧ ∃ Sh, KeyLaw P key Sh ∧ Sh k ∧ K none)
def zeroOf (P : Program) (t : TypeId) : Option Value := (P.info? t).bind (·.zero)
/-- The entry that the last step came to. -/
def xEntry (h : PH) (r : Nat) (K : Value → Value → Prop) : Prop :=
  ∃ m since seen last es e stamp, h r = some (.mapIter (some m) since seen last) ∧ Array.back? seen = some stamp ∧ h m = some (.map es last) ∧ Array.find? (fun e => MapEntry.born e == stamp) es = some e ∧ K e.key e.val
/-- How many entries a map has. -/
def xLen (h : PH) (m : Option Nat) (K : Int → Prop) : Prop := (∃ r es cl, m = some r ∧ h r = some (.map es cl) ∧ K es.size) ∨ (m = none ∧ K 0)
/-- Not nil. -/
def xNn (p : Option Addr) (K : Addr → Prop) : Prop := ∃ a, p = some a ∧ K a
def optInt : Option Value → Option (Option Int)
  | none => some none
  | some (.int _ n) => some (some n)
  | _ => none

/-- Two rows of cells, of a type that is compared by its cells, are compared. -/
structure EqLaw (P : Program) (t : TypeId) (x y : Value) (b : Bool) : Prop where
  guard : P.eqGuardType P.depth t = false
  run : ∀ w, (Op.equal t x y).run P w = .ok b w
def xEq (P : Program) (t : TypeId) (x y : Value) (K : Bool → Prop) : Prop := ∃ b, EqLaw P t x y b ∧ K b
/-- Two texts, one behind the other. -/
def xCat (x y : ByteArray) (K : ByteArray → Prop) : Prop := x.size + y.size ≤ 4611686018427387904 ∧ K (x ++ y)

/-- What such an operation asks of what is known of memory, and its value. -/
def fRaw (P : Program) (o : Oper) (ρ : Operand → Value) (h : PH) (K : Value → Prop) : Prop :=
  match o.op with
  | .load t a =>
    match P.underlying t, ρ a with
    | some _, .pointer (some p) => oLoad (leafOf P t) h p K
    | _, _ => False
  | .nilCheck x =>
    match ρ x with
    | .pointer p => xNn p fun a => K (.pointer (some a))
    | _ => False
  | .fieldAddr s x f =>
    match ρ x, P.underlying s with
    | .pointer (some a), some (.struct fs) => (match fs[f]? with
      | some fd => (match P.cellsOf fd.type with | 0 => False | _ + 1 => K (.pointer (some (a.add fd.offset))))
      | none => False)
    | _, _ => False
  | .indexAddr t x i =>
    match P.underlying t, ρ x, ρ i with
    | some (.slice el), .slice base len _, .int _ n => if P.cellsOf el = 0 then False else xIdx base len n (P.cellsOf el) fun a => K (.pointer (some a))
    | some (.array len el), .pointer (some a), .int _ n => if P.cellsOf el = 0 then False else xIdxA a len n (P.cellsOf el) fun a => K (.pointer (some a))
    | _, _, _ => False
  | .index t x i =>
    match P.underlying t, ρ x, ρ i with
    | some .string, .string s, .int _ n => xByte s n fun b => K (.int .u8 b)
    | _, _, _ => False
  | .slice t x lo hi none =>
    match P.underlying t, ρ x, optInt (lo.map ρ), optInt (hi.map ρ) with
    | some (.slice el), .slice base len cap, some l, some m => if P.cellsOf el = 0 then False else xSlice base len cap (P.cellsOf el) l m fun a n c => K (.slice a n c)
    | some .string, .string s, some l, some m => xSub s l m fun r => K (.string r)
    | _, _, _, _ => False
  | .lookup t x ix ok =>
    match P.underlying t with
    | some (.map key el) => (match zeroOf P el, ρ x with
      | some z, .map m => xLook P key h m (ρ ix) fun v => oVal (leafOf P el) (v.getD z) fun u => (match ok with | true => K (.tuple #[u, .bool v.isSome]) | false => K u)
      | _, _ => False)
    | _ => False
  | .entry it =>
    match ρ it with
    | .pointer (some ⟨r, 0, none⟩) => xEntry h r fun k u => K (.tuple #[k, u])
    | _ => False
  | .extract t i =>
    match ρ t with
    | .tuple vs => (match vs[i]? with
      | some v => oVal (leafOf P o.type) v K
      | none => False)
    | _ => False
  | .call { callee := .builtin .len, args := as, argTypes := ts } =>
    match ts[0]?, as[0]? with
    | some t, some x => (match P.underlying t, ρ x with
      | some (.map _ _), .map m => xLen h m fun n => K (.int .i64 n)
      | _, _ => match val? P (execOp ρ o) with
        | some (.value v) => K v
        | _ => False)
    | _, _ => False
  | .binOp op xt x y _ =>
    match op, ρ x, ρ y with
    | .eql, .agg a, .agg b => xEq P xt (.agg a) (.agg b) fun r => K (.bool r)
    | .neq, .agg a, .agg b => xEq P xt (.agg a) (.agg b) fun r => K (.bool (!r))
    | .eql, .pointer p, .pointer none => (match P.underlying xt with | some (.pointer _) => K (.bool (Option.isNone p)) | _ => False)
    | .neq, .pointer p, .pointer none => (match P.underlying xt with | some (.pointer _) => K (.bool (!(Option.isNone p))) | _ => False)
    | .eql, .slice p _ _, .slice none _ _ => (match P.underlying xt with | some (.slice _) => K (.bool (Option.isNone p)) | _ => False)
    | .neq, .slice p _ _, .slice none _ _ => (match P.underlying xt with | some (.slice _) => K (.bool (!(Option.isNone p))) | _ => False)
    | .eql, .map p, .map none => (match P.underlying xt with | some (.map _ _) => K (.bool (Option.isNone p)) | _ => False)
    | .neq, .map p, .map none => (match P.underlying xt with | some (.map _ _) => K (.bool (!(Option.isNone p))) | _ => False)
    | .add, .string a, .string b => xCat a b fun r => K (.string r)
    | .quo, .int k a, .int k' b => if k = k' then xDiv k a b fun n => K (.int k n) else False
    | .rem, .int k a, .int k' b => if k = k' then xMod a b fun n => K (.int k n) else False
    | .shl, .int k a, .int _ b => xShl k a b fun n => K (.int k n)
    | .shr, .int k a, .int _ b => xShr k a b fun n => K (.int k n)
    | _, _, _ => match val? P (execOp ρ o) with
      | some (.value v) => K v
      | _ => False
  | _ => match val? P (execOp ρ o) with
    | some (.value v) => K v
    | _ => False

def fOp (P : Program) (o : Oper) (e : Env) (h : PH) (K : Value → Prop) : Prop :=
  match known e o with
  | true => fRaw P o (evD e) h K
  | false => False

/-- A 'Sem' that yields 'v' in every world that has what 'h' says, and leaves it alone. -/
def Reads (P : Program) {α : Type} (s : Sem α) (h : PH) (v : α) : Prop := ∀ W w, St W h w → s.run P w = .ok v w

theorem Reads.pure {P : Program} {α : Type} {h : PH} (v : α) : Reads P (pure v : Sem α) h v := fun _ _ _ => rfl
theorem Reads.bind {P : Program} {α β : Type} {s : Sem α} {f : α → Sem β} {h : PH} {v : α} {u : β} (x : Reads P s h v) (y : Reads P (f v) h u) : Reads P (s >>= f) h u :=
  fun W w st => by rw [Sem.run_bind, x W w st]; exact y W w st
theorem Reads.of_val? {P : Program} {α : Type} {s : Sem α} {h : PH} {v : α} (x : val? P s = some v) : Reads P s h v := fun _ w _ => val?_run P s v x w
theorem Reads.load {P : Program} {h : PH} {a : Addr} {v : Value} (hc : h.cell a = some v) : Reads P (load a) h v := fun W w st => by
  show Sem.run P (.load .plain a .pure) w = _
  simp only [Sem.run, st.cell hc]

theorem reads_underlying {P : Program} {h : PH} {t : TypeId} {d : TypeDesc} (hd : P.underlying t = some d) : Reads P (underlying t) h d := by
  apply Reads.of_val?
  show val? P (match P.underlying t with | some d => Pure.pure d | none => stuck "no such type") = _
  rw [hd]; rfl
theorem reads_sizeOf {P : Program} {h : PH} {t : TypeId} (hd : (P.info? t).isSome = true) : Reads P (sizeOf t) h (P.cellsOf t) := by
  obtain ⟨i, hi⟩ := Option.isSome_iff_exists.1 hd
  apply Reads.of_val?
  show val? P (Sem.bind (match P.info? t with | some i => Pure.pure i | none => stuck "no such type") fun i => Pure.pure i.size) = _
  rw [hi]; simp only [Program.cellsOf, hi]; rfl

end Go.Sx

/-
  SX, part 3: the operations that only read: soundness.
-/
namespace Go.Sx
open Go

theorem cellsOf_info {P : Program} {t : TypeId} (h : P.cellsOf t ≠ 0) : (P.info? t).isSome = true := by
  unfold Program.cellsOf at h
  cases hi : P.info? t with
  | none => simp [hi] at h
  | some i => rfl
theorem underlying_info {P : Program} {t : TypeId} {d : TypeDesc} (h : P.underlying t = some d) : (P.info? t).isSome = true := by
  unfold Program.underlying at h
  cases hi : P.info? t with
  | none => simp [hi] at h
  | some i => rfl

theorem reads_isAgg {P : Program} {h : PH} {t : TypeId} {d : TypeDesc} (hd : P.underlying t = some d) :
    Reads P (isAgg t) h (match d with | .struct _ | .array _ _ => true | _ => false) := by
  refine (reads_underlying hd).bind ?_
  cases d <;> exact Reads.pure _

theorem reads_cellsFrom {P : Program} {h : PH} {a : Addr} {vs : List Value} : ∀ (n i : Nat) (acc : Array Value), (∀ j, j < n → h.cell (a.add (i + j)) = vs[i + j]?) → i + n = vs.length →
    Reads P (loadCellsFrom a i n acc) h (acc ++ (vs.drop i).toArray)
  | 0, i, acc, _, hn => by
    have : vs.drop i = [] := List.drop_eq_nil_of_le (by omega)
    rw [this]; simpa [loadCellsFrom] using Reads.pure acc
  | n + 1, i, acc, hc, hn => by
    have hlt : i < vs.length := by omega
    have h0 := hc 0 (by omega)
    simp only [Nat.add_zero] at h0
    have h0' : h.cell (a.add i) = some vs[i] := by rw [h0]; simp [hlt]
    refine (Reads.load h0').bind ?_
    have := reads_cellsFrom (P := P) (h := h) (a := a) (vs := vs) n (i + 1) (acc.push vs[i]) (fun j hj => by have := hc (j + 1) (by omega); rwa [show i + (j + 1) = i + 1 + j from by omega] at this) (by omega)
    have e : acc ++ (vs.drop i).toArray = acc.push vs[i] ++ (vs.drop (i + 1)).toArray := by
      rw [List.drop_eq_getElem_cons hlt]
      apply Array.ext'
      simp
    rw [e]; exact this

theorem reads_cells {P : Program} {h : PH} {a : Addr} {vs : List Value} (hc : ∀ j, j < vs.length → h.cell (a.add j) = vs[j]?) : Reads P (loadCells a vs.length) h vs.toArray := by
  have := reads_cellsFrom (P := P) (h := h) (a := a) (vs := vs) vs.length 0 #[] (by simpa using hc) (by simp)
  simpa [loadCells] using this

theorem reads_loadVar_agg {P : Program} {h : PH} {t : TypeId} {a : Addr} {vs : List Value} (hd : (∃ fs, P.underlying t = some (.struct fs)) ∨ ∃ n e, P.underlying t = some (.array n e))
    (hn : vs.length = P.cellsOf t) (hc : ∀ j, j < vs.length → h.cell (a.add j) = vs[j]?) : Reads P (loadVar t a) h (.agg vs.toArray) := by
  have hi : Reads P (isAgg t) h true := by
    rcases hd with ⟨fs, hd⟩ | ⟨n, e, hd⟩
    · exact reads_isAgg hd
    · exact reads_isAgg hd
  have hinf : (P.info? t).isSome = true := by
    rcases hd with ⟨fs, hd⟩ | ⟨n, e, hd⟩ <;> exact underlying_info hd
  refine hi.bind ?_
  simp only [if_true]
  refine (reads_sizeOf hinf).bind ?_
  rw [← hn]
  exact (reads_cells hc).bind (Reads.pure _)

theorem reads_loadVar_one {P : Program} {h : PH} {t : TypeId} {a : Addr} {v : Value} {d : TypeDesc} (hd : P.underlying t = some d) (hs : ∀ fs, d ≠ .struct fs) (ha : ∀ n e, d ≠ .array n e)
    (hc : h.cell a = some v) : Reads P (loadVar t a) h v := by
  refine (reads_isAgg hd).bind ?_
  cases d <;> first | exact absurd rfl (hs _) | exact absurd rfl (ha _ _) | exact Reads.load hc

/-- A typed load is a load. -/
theorem oLoad_reads {P : Program} {h : PH} {t : TypeId} {a : Addr} {K : Value → Prop} (hk : oLoad (leafOf P t) h a K) (hu : (P.underlying t).isSome = true) : ∃ v, K v ∧ Reads P (loadVar t a) h v := by
  obtain ⟨d, hd⟩ := Option.isSome_iff_exists.1 hu
  have big : ((∃ fs, P.underlying t = some (.struct fs)) ∨ ∃ n e, P.underlying t = some (.array n e)) → oLoad (.big (P.cellsOf t)) h a K → ∃ v, K v ∧ Reads P (loadVar t a) h v := by
    rintro hd ⟨cs, hn, hc, hK⟩
    refine ⟨_, hK, ?_⟩
    have := reads_loadVar_agg (P := P) (h := h) (t := t) (a := a) (vs := cs.toList) hd (by simpa using hn) (fun j hj => by simpa using hc j (by simp at hj; omega))
    simpa using this
  have agg : ((∃ fs, P.underlying t = some (.struct fs)) ∨ ∃ n e, P.underlying t = some (.array n e)) → oLoad (if P.cellsOf t ≤ maxAgg then (match atsOf P 10 t with | some l => if l.length = P.cellsOf t then .agg l else .big (P.cellsOf t) | none => .big (P.cellsOf t)) else .big (P.cellsOf t)) h a K → ∃ v, K v ∧ Reads P (loadVar t a) h v := by
    intro hd hk
    split at hk
    · split at hk
      · split at hk
        · rename_i l _ hl
          obtain ⟨vs, hv, hc, hK⟩ := oRow_some hk
          exact ⟨_, hK, reads_loadVar_agg hd (hv.trans hl) (fun j hj => by have := hc j (by omega); simpa using this)⟩
        · exact big hd hk
      · exact big hd hk
    · exact big hd hk
  unfold leafOf at hk
  rw [hd] at hk
  cases d
  case struct fs => exact agg (.inl ⟨fs, hd⟩) hk
  case array n e => exact agg (.inr ⟨n, e, hd⟩) hk
  all_goals
    dsimp only [oLoad] at hk
    obtain ⟨v, hv, hK⟩ := oAt_some hk
    exact ⟨v, hK, reads_loadVar_one hd (by simp) (by simp) hv⟩

theorem reads_bound {P : Program} {h : PH} {k : IntKind} {i : Int} {y : Nat} {code : BoundsCode} (h0 : 0 ≤ i) (h1 : i ≤ y) : Reads P (Instr.sliceBound (.int k i) y code) h i.toNat := by
  show Reads P (if 0 ≤ i ∧ i ≤ y then Pure.pure i.toNat else _) h i.toNat
  rw [if_pos ⟨h0, h1⟩]; exact Reads.pure _

/-- The values of two bounds that may be there. -/
theorem optInt_none {x : Option Value} (h : optInt x = some none) : x = none := by
  cases x with
  | none => rfl
  | some v => cases v <;> simp [optInt] at h
theorem optInt_some {x : Option Value} {n : Int} (h : optInt x = some (some n)) : ∃ k, x = some (.int k n) := by
  cases x with
  | none => simp [optInt] at h
  | some v => cases v <;> simp [optInt] at h; subst h; exact ⟨_, rfl⟩

theorem reads_low {P : Program} {h : PH} {α : Type} {lo : Option Value} {l : Option Int} {m : Int} {y : Nat} {code : BoundsCode} (hl : optInt lo = some l) (h0 : 0 ≤ l.getD 0) (h1 : l.getD 0 ≤ m) (hy : m = y) (g : Nat → Sem α) (r : α)
    (hr : Reads P (g (l.getD 0).toNat) h r) : Reads P (match lo with | some v => Instr.sliceBound v y code >>= g | none => Pure.pure 0 >>= g) h r := by
  cases l with
  | none =>
    rw [optInt_none hl]
    exact (Reads.pure 0).bind hr
  | some n =>
    obtain ⟨k, rfl⟩ := optInt_some hl
    exact (reads_bound (by simpa using h0) (by simp at h1; omega)).bind hr

theorem reads_bounds {P : Program} {h : PH} {sl : Bool} {len cap : Nat} {lo hi : Option Value} {l m : Option Int} (hl : optInt lo = some l) (hm : optInt hi = some m)
    (h0 : 0 ≤ l.getD 0) (h1 : l.getD 0 ≤ m.getD len) (h2 : m.getD len ≤ cap) : Reads P (Instr.sliceBounds sl len cap lo hi none) h ((l.getD 0).toNat, (m.getD len).toNat, cap) := by
  unfold Instr.sliceBounds
  refine (Reads.pure cap).bind ?_
  cases m with
  | none =>
    rw [optInt_none hm]
    refine (Reads.pure len).bind ?_
    exact reads_low (m := len) hl h0 (by simpa using h1) rfl _ _ (by simpa using Reads.pure _)
  | some n =>
    obtain ⟨k, rfl⟩ := optInt_some hm
    simp only [Option.getD_some] at h1 h2
    refine (reads_bound (by omega) h2).bind ?_
    exact reads_low (m := n) hl h0 h1 (by omega) _ _ (Reads.pure _)

/-- The operation's own value. -/
theorem reads_value {P : Program} {h : PH} {s : Sem Value} {v : Value} (x : Reads P s h v) : Reads P (do pure (Next.value (← s)) : Sem Next) h (.value v) := x.bind (Reads.pure _)

def isEq : BinOp → Bool
  | .eql | .neq => true
  | _ => false
theorem reads_eql {P : Program} {o : Oper} {ρ : Operand → Value} {h : PH} {op : BinOp} {xt yt : TypeId} {x y : Operand} {v : Value} (ho : o.op = .binOp op xt x y yt) (_hop : isEq op = true)
    (hg : Reads P (eqGuard op xt x y (ρ x) (ρ y)) h ()) (hr : Reads P (binOp op xt (ρ x) (ρ y)) h v) : Reads P (execOp ρ o) h (.value v) := by
  unfold execOp; rw [ho]; simp only []
  exact reads_value (hg.bind hr)
theorem guard_agg {P : Program} {h : PH} {op : BinOp} {t : TypeId} {x y : Operand} {a b : Array Value} (hg : P.eqGuardType P.depth t = false) : Reads P (eqGuard op t x y (.agg a) (.agg b)) h () := by
  have he : op = .eql ∨ op = .neq ∨ (op matches .eql | .neq) = false := by cases op <;> simp
  apply Reads.of_val?
  unfold eqGuard
  rcases he with rfl | rfl | he
  · show val? P (if !P.eqGuardType P.depth t then Pure.pure () else _) = _
    rw [hg]; rfl
  · show val? P (if !P.eqGuardType P.depth t then Pure.pure () else _) = _
    rw [hg]; rfl
  · cases op <;> simp at he <;> rfl
def isDivSh : BinOp → Bool
  | .quo | .rem | .shl | .shr | .add => true
  | _ => false
theorem reads_arith {P : Program} {o : Oper} {ρ : Operand → Value} {h : PH} {op : BinOp} {xt yt : TypeId} {x y : Operand} {v : Value} (ho : o.op = .binOp op xt x y yt) (hop : isDivSh op = true)
    (hr : Reads P (binOp op xt (ρ x) (ρ y)) h v) : Reads P (execOp ρ o) h (.value v) := by
  unfold execOp; rw [ho]; simp only []
  refine reads_value (Reads.bind (v := ()) ?_ hr)
  unfold eqGuard
  cases op <;> simp [isDivSh] at hop <;> exact Reads.pure _

theorem reads_getObj0 {P : Program} {h : PH} {r : Nat} {es : Array MapEntry} {cl : Nat} (hr : h r = some (.map es cl)) : Reads P (getObj r) h (.map es cl) := fun W w st => by
  show Sem.run P (.getObj r .pure) w = _
  simp only [Sem.run, st.sh _ _ hr]

def lookVal (ok : Bool) (v : Option Value) (z : Value) : Value := match ok with
  | true => .tuple #[v.getD z, .bool v.isSome]
  | false => v.getD z
theorem reads_lookup {P : Program} {h : PH} {t key el : TypeId} {z k : Value} {m : Option Nat} {ok : Bool} {es : Array MapEntry} {Sh : Value → Prop} (ht : P.underlying t = some (.map key el)) (hz : zeroOf P el = some z) (law : KeyLaw P key Sh) (hS : Sh k)
    (hE : ∀ e ∈ es.toList, Sh (MapEntry.key e)) (hm : (∃ r cl, m = some r ∧ h r = some (.map es cl)) ∨ (m = none ∧ es = #[])) : Reads P (Instr.lookup t (.map m) k ok) h (lookVal ok (mapGet es k) z) := by
  have hz' : Reads P (zeroValue el) h z := by
    unfold zeroOf at hz
    cases hi : P.info? el with
    | none => rw [hi] at hz; cases hz
    | some i =>
      rw [hi] at hz
      apply Reads.of_val?
      show val? P (Sem.bind (match P.info? el with | some i => Pure.pure i | none => stuck "no such type") fun i => match i.zero with | some v => Pure.pure v | none => unsupported (.resourceLimit "a value of more than 2^22 cells")) = _
      rw [hi]
      have hz2 : i.zero = some z := hz
      show val? P (match i.zero with | some v => Pure.pure v | none => unsupported (.resourceLimit "a value of more than 2^22 cells")) = _
      rw [hz2]; rfl
  unfold Instr.lookup
  refine (reads_underlying ht).bind ?_
  simp only []
  have rest : Reads P (do
      Instr.checkKey es.isEmpty 10000 key k
      let (v, ok') ← match ← Instr.findKey key k es.toList with
        | some (_, v) => pure (v, true)
        | none => pure (← zeroValue el, false)
      pure (if ok then .tuple #[v, .bool ok'] else v)) h (lookVal ok (mapGet es k) z) := by
    refine Reads.bind (v := ()) (fun W w _ => law.check _ hS _ w) ?_
    refine Reads.bind (v := findE es.toList k 0) (fun W w _ => law.find _ _ hS hE w) ?_
    unfold mapGet lookVal
    cases findE es.toList k 0 with
    | none => cases ok <;> exact hz'.bind (Reads.pure _)
    | some p => cases ok <;> exact Reads.pure _
  rcases hm with ⟨r, cl, rfl, hr⟩ | ⟨rfl, rfl⟩
  · exact (reads_getObj0 hr).bind ((Reads.pure _).bind rest)
  · exact (Reads.pure _).bind rest

theorem fRaw_sound {P : Program} {o : Oper} {ρ : Operand → Value} {h : PH} {K : Value → Prop} (hk : fRaw P o ρ h K) : ∃ v, K v ∧ Reads P (execOp ρ o) h (.value v) := by
  have gen : (match val? P (execOp ρ o) with | some (.value v) => K v | _ => False) → ∃ v, K v ∧ Reads P (execOp ρ o) h (.value v) := by
    intro hk
    split at hk
    · rename_i v hv; exact ⟨v, hk, Reads.of_val? hv⟩
    · exact hk.elim
  unfold fRaw at hk
  split at hk
  · -- load
    rename_i t a ho
    split at hk
    · rename_i d p hd hp
      obtain ⟨v, hK, hr⟩ := oLoad_reads hk (by rw [hd]; rfl)
      refine ⟨v, hK, ?_⟩
      unfold execOp; rw [ho]; simp only []
      refine reads_value ?_
      unfold Instr.loadAt Instr.sureAddr; rw [hp]
      exact (Reads.pure p).bind hr
    · exact hk.elim
  · -- nilCheck
    rename_i x ho
    split at hk
    · rename_i p hp
      obtain ⟨a, rfl, hK⟩ := hk
      refine ⟨_, hK, ?_⟩
      unfold execOp; rw [ho]; simp only [hp]
      exact Reads.pure _
    · exact hk.elim
  · -- fieldAddr
    rename_i s x f ho
    split at hk
    · rename_i a fs hx hs
      split at hk
      · rename_i fd hfd
        split at hk
        · exact hk.elim
        · rename_i n hn
          refine ⟨_, hk, ?_⟩
          unfold execOp; rw [ho]; simp only []
          refine reads_value ?_
          unfold Instr.fieldAt
          refine (reads_underlying hs).bind ?_
          simp only [hfd]
          unfold Instr.sureAddr; rw [hx]
          refine (Reads.pure a).bind ?_
          unfold fieldPlace
          refine Reads.bind ((reads_sizeOf (cellsOf_info (by rw [hn]; omega))).bind ?_) (Reads.pure _)
          rw [hn]; simp only [Nat.add_one_ne_zero, if_false]
          exact Reads.pure _
      · exact hk.elim
    · exact hk.elim
  · -- indexAddr
    rename_i t x i ho
    split at hk
    · rename_i el base len cap k n ht hx hi
      split at hk
      · exact hk.elim
      rename_i hz
      obtain ⟨a, rfl, h0, h1, hK⟩ := hk
      refine ⟨_, hK, ?_⟩
      unfold execOp; rw [ho]; simp only []
      refine reads_value ?_
      unfold Instr.indexAt asIntOf; rw [hx, hi]
      refine (Reads.pure _).bind ?_
      refine (reads_underlying ht).bind ?_
      refine (Reads.pure _).bind ?_
      refine (reads_underlying ht).bind ?_
      refine (Reads.pure _).bind ?_
      have : 0 ≤ n ∧ n < len := ⟨h0, h1⟩
      show Reads P (if 0 ≤ n ∧ n < (len : Int) then _ else _) h _
      rw [if_pos this]
      exact (reads_sizeOf (cellsOf_info hz)).bind (Reads.pure _)
    · rename_i len el a k n ht hx hi
      split at hk
      · exact hk.elim
      rename_i hz
      obtain ⟨⟨h0, h1⟩, hK⟩ := hk
      refine ⟨_, hK, ?_⟩
      unfold execOp; rw [ho]; simp only []
      refine reads_value ?_
      unfold Instr.indexAt asIntOf; rw [hx, hi]
      refine (Reads.pure _).bind ?_
      refine (reads_underlying ht).bind ?_
      refine Reads.bind (v := (some a, len, el)) ?_ ?_
      · show Reads P (do pure (some (← Instr.sureAddr (.pointer (some a))), len, el)) h _
        exact (Reads.pure a).bind (Reads.pure _)
      refine (reads_underlying ht).bind ?_
      refine (Reads.pure _).bind ?_
      have : 0 ≤ n ∧ n < len := ⟨h0, h1⟩
      show Reads P (if 0 ≤ n ∧ n < (len : Int) then _ else _) h _
      rw [if_pos this]
      exact (reads_sizeOf (cellsOf_info hz)).bind (Reads.pure _)
    · exact hk.elim
  · -- index
    rename_i t x i ho
    split at hk
    · rename_i s k n ht hx hi
      obtain ⟨b, h0, hb, hK⟩ := hk
      refine ⟨_, hK, ?_⟩
      unfold execOp; rw [ho]; simp only []
      refine reads_value ?_
      unfold Instr.index asIntOf; rw [hx, hi]
      refine (Reads.pure _).bind ?_
      refine (reads_underlying ht).bind ?_
      simp only [h0, if_true, hb]
      exact Reads.pure _
    · exact hk.elim
  · -- slice
    rename_i t x lo hi ho
    split at hk
    · rename_i el base len cap l m ht hx hl hm
      split at hk
      · exact hk.elim
      rename_i hz
      obtain ⟨⟨h0, h1, h2⟩, hK⟩ := hk
      refine ⟨_, hK, ?_⟩
      unfold execOp; rw [ho]; simp only []
      refine reads_value ?_
      unfold Instr.sliceAt
      refine (reads_underlying ht).bind ?_
      simp only []
      unfold Instr.slice
      refine (reads_underlying ht).bind ?_
      rw [hx]; simp only []
      refine (reads_bounds hl hm h0 h1 h2).bind ?_
      exact (reads_sizeOf (cellsOf_info hz)).bind (Reads.pure _)
    · rename_i s l m ht hx hl hm
      obtain ⟨⟨h0, h1, h2⟩, hK⟩ := hk
      refine ⟨_, hK, ?_⟩
      unfold execOp; rw [ho]; simp only []
      refine reads_value ?_
      unfold Instr.sliceAt
      refine (reads_underlying ht).bind ?_
      simp only []
      unfold Instr.slice
      refine (reads_underlying ht).bind ?_
      rw [hx]; simp only []
      rw [if_neg (by simp)]
      refine (reads_bounds hl hm h0 h1 h2).bind ?_
      exact Reads.pure _
    · exact hk.elim
  · -- lookup
    rename_i t x ix ok ho
    split at hk
    · rename_i key el ht
      split at hk
      · rename_i z m hz hx
        have fin : ∀ (es : Array MapEntry) (v : Value), v = lookVal ok (mapGet es (ρ ix)) z → Reads P (Instr.lookup t (.map m) (ρ ix) ok) h v → Reads P (execOp ρ o) h (.value v) := by
          intro es v _ hr
          unfold execOp; rw [ho]; simp only []
          refine reads_value ?_
          rw [hx]; exact hr
        rcases hk with ⟨r, es, cl, Sh, rfl, hr, law, hS, hE, hk⟩ | ⟨rfl, Sh, law, hS, hk⟩
        · have hK := oVal_same hk
          exact ⟨_, by cases ok <;> exact hK, fin es _ rfl (reads_lookup ht hz law hS hE (.inl ⟨r, cl, rfl, hr⟩))⟩
        · have hK := oVal_same hk
          exact ⟨lookVal ok none z, by cases ok <;> exact hK, fin #[] _ rfl (reads_lookup ht hz law hS (by simp) (.inr ⟨rfl, rfl⟩))⟩
      · exact hk.elim
    · exact hk.elim
  · -- entry
    rename_i it ho
    split at hk
    · rename_i r hr
      obtain ⟨m, since, seen, last, es, e, stamp, h1, h2, h3, h4, hK⟩ := hk
      refine ⟨_, hK, ?_⟩
      unfold execOp; rw [ho]; simp only []
      refine reads_value ?_
      unfold Instr.entry
      rw [hr]; simp only []
      have g1 : Reads P (getObj r) h (.mapIter (some m) since seen last) := fun W w st => by
        show Sem.run P (.getObj r .pure) w = _
        simp only [Sem.run, st.sh _ _ h1]
      refine g1.bind ?_
      simp only [h2]
      refine (reads_getObj0 h3).bind ?_
      simp only [bne_self_eq_false, Bool.false_eq_true, if_false]
      rw [h4]
      exact Reads.pure _
    · exact hk.elim
  · -- extract
    rename_i t i ho
    split at hk
    · rename_i vs hx
      split at hk
      · rename_i v hv
        refine ⟨v, oVal_same hk, ?_⟩
        unfold execOp; rw [ho]; simp only []
        refine reads_value ?_
        unfold Instr.extract; rw [hx]; simp only [hv]
        exact Reads.pure _
      · exact hk.elim
    · exact hk.elim
  · -- len
    rename_i as ts ho
    split at hk
    · rename_i t x ht hx
      split at hk
      · rename_i k2 e2 m hu hr
        have hax : (as.map ρ)[0]? = some (ρ x) := by rw [Array.getElem?_map, hx]; rfl
        have fin : ∀ n : Int, Reads P (match m with | none => pure (goInt 0) | some r => do
              let .map entries _ ← getObj r | stuck "len: map expected"
              pure (goInt entries.size)) h (.int .i64 n) → Reads P (execOp ρ o) h (.value (.int .i64 n)) := by
          intro n hn
          unfold execOp; rw [ho]; simp only []
          refine Reads.bind (v := { target := .builtin .len ts o.type (as.map fun | .const _ => true | _ => false), args := as.map ρ }) (Reads.pure _) ?_
          show Reads P (do pure (Next.value (← Builtin.len_ ts o.type (as.map ρ)))) h _
          refine reads_value ?_
          unfold Builtin.len_
          rw [ht, hax]; simp only []
          refine (reads_underlying hu).bind ?_
          rw [hr]
          cases m <;> exact hn
        rcases hk with ⟨r, es, cl, rfl, hm, hK⟩ | ⟨rfl, hK⟩
        · exact ⟨_, hK, fin _ ((reads_getObj0 hm).bind (Reads.pure _))⟩
        · exact ⟨_, hK, fin _ (Reads.pure _)⟩
      · exact gen hk
    · exact hk.elim
  · -- binOp
    rename_i op xt x y yt ho
    split at hk
    · rename_i a b hx hy
      obtain ⟨r, law, hK⟩ := hk
      refine ⟨_, hK, ?_⟩
      refine reads_eql ho (by simp [isEq]) ?_ ?_
      · rw [hx, hy]; exact guard_agg law.guard
      · rw [hx, hy]
        show Reads P (do pure (Value.bool (← Op.equal xt (.agg a) (.agg b)))) h _
        exact Reads.bind (fun W w _ => law.run w) (Reads.pure _)
    · rename_i a b hx hy
      obtain ⟨r, law, hK⟩ := hk
      refine ⟨_, hK, ?_⟩
      refine reads_eql ho (by simp [isEq]) ?_ ?_
      · rw [hx, hy]; exact guard_agg law.guard
      · rw [hx, hy]
        show Reads P (do pure (Value.bool (!(← Op.equal xt (.agg a) (.agg b))))) h _
        exact Reads.bind (fun W w _ => law.run w) (Reads.pure _)
    · rename_i p hx hy
      split at hk
      · rename_i el hu
        refine ⟨_, hk, reads_eql ho (by simp [isEq]) ?_ ?_⟩
        · rw [hx, hy]; exact Reads.pure _
        · rw [hx, hy]
          show Reads P (do pure (Value.bool (← Op.equal xt (.pointer p) (.pointer none)))) h _
          refine Reads.bind (v := Option.isNone p) ?_ (Reads.pure _)
          show Reads P (Op.equalIn (9999 + 1) xt _ _) h _
          unfold Op.equalIn
          refine (reads_underlying hu).bind ?_
          cases p <;> exact Reads.pure _
      · exact hk.elim
    · rename_i p hx hy
      split at hk
      · rename_i el hu
        refine ⟨_, hk, reads_eql ho (by simp [isEq]) ?_ ?_⟩
        · rw [hx, hy]; exact Reads.pure _
        · rw [hx, hy]
          show Reads P (do pure (Value.bool (!(← Op.equal xt (.pointer p) (.pointer none))))) h _
          refine Reads.bind (v := Option.isNone p) ?_ (Reads.pure _)
          show Reads P (Op.equalIn (9999 + 1) xt _ _) h _
          unfold Op.equalIn
          refine (reads_underlying hu).bind ?_
          cases p <;> exact Reads.pure _
      · exact hk.elim
    · rename_i p l c l' c' hx hy
      split at hk
      · rename_i el hu
        refine ⟨_, hk, reads_eql ho (by simp [isEq]) ?_ ?_⟩
        · rw [hx, hy]; exact Reads.pure _
        · rw [hx, hy]
          show Reads P (do pure (Value.bool (← Op.equal xt (.slice p l c) (.slice none l' c')))) h _
          refine Reads.bind (v := Option.isNone p) ?_ (Reads.pure _)
          show Reads P (Op.equalIn (9999 + 1) xt _ _) h _
          unfold Op.equalIn
          refine (reads_underlying hu).bind ?_
          cases p <;> exact Reads.pure _
      · exact hk.elim
    · rename_i p l c l' c' hx hy
      split at hk
      · rename_i el hu
        refine ⟨_, hk, reads_eql ho (by simp [isEq]) ?_ ?_⟩
        · rw [hx, hy]; exact Reads.pure _
        · rw [hx, hy]
          show Reads P (do pure (Value.bool (!(← Op.equal xt (.slice p l c) (.slice none l' c'))))) h _
          refine Reads.bind (v := Option.isNone p) ?_ (Reads.pure _)
          show Reads P (Op.equalIn (9999 + 1) xt _ _) h _
          unfold Op.equalIn
          refine (reads_underlying hu).bind ?_
          cases p <;> exact Reads.pure _
      · exact hk.elim
    · rename_i p hx hy
      split at hk
      · rename_i k2 el hu
        refine ⟨_, hk, reads_eql ho (by simp [isEq]) ?_ ?_⟩
        · rw [hx, hy]; exact Reads.pure _
        · rw [hx, hy]
          show Reads P (do pure (Value.bool (← Op.equal xt (.map p) (.map none)))) h _
          refine Reads.bind (v := Option.isNone p) ?_ (Reads.pure _)
          show Reads P (Op.equalIn (9999 + 1) xt _ _) h _
          unfold Op.equalIn
          refine (reads_underlying hu).bind ?_
          cases p <;> exact Reads.pure _
      · exact hk.elim
    · rename_i p hx hy
      split at hk
      · rename_i k2 el hu
        refine ⟨_, hk, reads_eql ho (by simp [isEq]) ?_ ?_⟩
        · rw [hx, hy]; exact Reads.pure _
        · rw [hx, hy]
          show Reads P (do pure (Value.bool (!(← Op.equal xt (.map p) (.map none))))) h _
          refine Reads.bind (v := Option.isNone p) ?_ (Reads.pure _)
          show Reads P (Op.equalIn (9999 + 1) xt _ _) h _
          unfold Op.equalIn
          refine (reads_underlying hu).bind ?_
          cases p <;> exact Reads.pure _
      · exact hk.elim
    · rename_i a b hx hy
      obtain ⟨hz, hK⟩ := hk
      refine ⟨_, hK, reads_arith ho rfl ?_⟩
      rw [hx, hy]
      show Reads P (Op.stringOp .add a b) h _
      unfold Op.stringOp
      simp only []
      rw [if_neg (by simp [IntKind.max, IntKind.signed, IntKind.bits]; omega)]
      exact Reads.pure _
    · rename_i k a k' b hx hy
      split at hk
      · rename_i hkk
        obtain ⟨hz, hK⟩ := hk
        refine ⟨_, hK, reads_arith ho rfl ?_⟩
        rw [hx, hy]
        show Reads P (if k ≠ k' then _ else Op.intDiv .quo k a b) h _
        rw [if_neg (by simp [hkk])]
        unfold Op.intDiv
        rw [if_neg hz]; exact Reads.pure _
      · exact hk.elim
    · rename_i k a k' b hx hy
      split at hk
      · rename_i hkk
        obtain ⟨hz, hK⟩ := hk
        refine ⟨_, hK, reads_arith ho rfl ?_⟩
        rw [hx, hy]
        show Reads P (if k ≠ k' then _ else Op.intDiv .rem k a b) h _
        rw [if_neg (by simp [hkk])]
        unfold Op.intDiv
        rw [if_neg hz]; exact Reads.pure _
      · exact hk.elim
    · rename_i k a k' b hx hy
      obtain ⟨hz, hK⟩ := hk
      refine ⟨_, hK, reads_arith ho rfl ?_⟩
      rw [hx, hy]
      show Reads P (Op.shift .shl k a k' b) h _
      unfold Op.shift
      rw [if_neg (by omega)]; exact Reads.pure _
    · rename_i k a k' b hx hy
      obtain ⟨hz, hK⟩ := hk
      refine ⟨_, hK, reads_arith ho rfl ?_⟩
      rw [hx, hy]
      show Reads P (Op.shift .shr k a k' b) h _
      unfold Op.shift
      rw [if_neg (by omega)]; exact Reads.pure _
    · exact gen hk
  · exact gen hk

theorem fOp_sound {P : Program} {o : Oper} {e : Env} {h : PH} {K : Value → Prop} (hk : fOp P o e h K) : ∃ v, K v ∧ ∀ W a w, Fits e a → St W h w → (execOp a.eval o).run P w = .ok (.value v) w := by
  unfold fOp at hk
  split at hk
  · rename_i hn
    obtain ⟨v, hK, hr⟩ := fRaw_sound hk
    exact ⟨v, hK, fun W a w f st => by rw [known_exec f hn]; exact hr W w st⟩
  · exact hk.elim

end Go.Sx

/-
  SX, part 4: the operations that write, make memory, or call.
-/
namespace Go.Sx
open Go

/-- What a 'Sem' comes to, in every world that has what 'h' says. -/
def Does (P : Program) {α : Type} (s : Sem α) (h : PH) (K : α → PH → Prop) : Prop := ∀ W w, St W h w → ∃ a w' h', s.run P w = .ok a w' ∧ St W h' w' ∧ K a h'

theorem Does.of_dSem {P : Program} {α : Type} {s : Sem α} {h : PH} {K : α → PH → Prop} (d : dSem P s h K) : Does P s h K := fun _ w st => dSem_sound P s h K w d st
theorem Does.pure {P : Program} {α : Type} {h : PH} {K : α → PH → Prop} {a : α} (k : K a h) : Does P (pure a) h K := fun _ w st => ⟨a, w, h, rfl, st, k⟩
theorem Does.mono {P : Program} {α : Type} {s : Sem α} {h : PH} {K K' : α → PH → Prop} (d : Does P s h K) (m : ∀ a h', K a h' → K' a h') : Does P s h K' :=
  fun W w st => let ⟨a, w', h', hr, st', k⟩ := d W w st; ⟨a, w', h', hr, st', m _ _ k⟩
theorem Does.bind {P : Program} {α β : Type} {s : Sem α} {f : α → Sem β} {h : PH} {K : β → PH → Prop} (d : Does P s h fun a h' => Does P (f a) h' K) : Does P (s >>= f) h K := by
  intro W w st
  obtain ⟨a, w', h', hr, st', k⟩ := d W w st
  obtain ⟨b, w'', h'', hr', st'', k'⟩ := k W w' st'
  exact ⟨b, w'', h'', by rw [Sem.run_bind, hr]; exact hr', st'', k'⟩
theorem Does.read {P : Program} {α β : Type} {s : Sem α} {f : α → Sem β} {h : PH} {K : β → PH → Prop} {v : α} (r : Reads P s h v) (d : Does P (f v) h K) : Does P (s >>= f) h K :=
  Does.bind fun W w st => ⟨v, w, h, r W w st, st, d⟩
theorem Does.weaken {P : Program} {α : Type} {s : Sem α} {h h' : PH} {K : α → PH → Prop} (l : h'.le h) (d : Does P s h' K) : Does P s h K := fun W w st => d W w (st.le l)
theorem Does.new {P : Program} {α : Type} {f : Nat → Sem α} {h : PH} {K : α → PH → Prop} {o : Obj} (d : ∀ b, h b = none → Does P (f b) (h.upd b o) K) : Does P (newObj o >>= f) h K :=
  Does.bind fun _ w st => ⟨w.heap.size, _, _, rfl, st.push o, d _ st.fresh⟩

def setN (c : Array Value) (off : Nat) : List Value → Array Value
  | [] => c
  | v :: vs => setN (c.setIfInBounds off v) (off + 1) vs
@[simp] theorem setN_size (c : Array Value) : ∀ (vs : List Value) (off : Nat), (setN c off vs).size = c.size := by
  intro vs
  induction vs generalizing c with
  | nil => intro off; rfl
  | cons v vs ih => intro off; simp [setN, ih]

theorem PH.upd_upd (h : PH) (b : Nat) (x y : Obj) : (h.upd b x).upd b y = h.upd b y := by
  funext z; simp only [PH.upd]; split <;> rfl
theorem PH.upd_id {h : PH} {b : Nat} {x : Obj} (hb : h b = some x) : h.upd b x = h := by
  funext z; simp only [PH.upd]; split
  · rename_i e; subst e; exact hb.symm
  · rfl

theorem add_off {a : Addr} (i : Nat) (hs : a.spot = none) : (a.add i).block = a.block ∧ (a.add i).off = a.off + i ∧ (a.add i).spot = none := by
  unfold Addr.add
  split
  · rename_i e; subst e; exact ⟨rfl, by omega, hs⟩
  · exact ⟨rfl, rfl, rfl⟩

theorem dSem_storeCells {P : Program} {a : Addr} {el : TypeId} {K : Unit → PH → Prop} (hs : a.spot = none) : ∀ (vs : List Value) (i : Nat) (h : PH) (c : Array Value), h a.block = some (.cells c el (0, 0)) → (∀ v ∈ vs, oneCell v = true) →
    a.off + i + vs.length ≤ c.size → K () (h.upd a.block (.cells (setN c (a.off + i) vs) el (0, 0))) → dSem P (storeCells a vs i) h K
  | [], i, h, c, hb, _, _, hK => by
    simp only [setN] at hK
    rw [PH.upd_id hb] at hK
    exact hK
  | v :: vs, i, h, c, hb, ho, hl, hK => by
    obtain ⟨e1, e2, e3⟩ := add_off (a := a) i hs
    simp only [List.length_cons] at hl
    refine dSem_bind P _ _ _ _ ?_
    refine ⟨ho v (List.mem_cons_self ..), c, el, by rw [e1]; exact hb, e3, by rw [e2]; omega, ?_⟩
    show dSem P (storeCells a vs (i + 1)) _ K
    rw [e1, e2]
    refine dSem_storeCells (el := el) hs vs (i + 1) _ (c.setIfInBounds (a.off + i) v) (by simp) (fun u hu => ho u (List.mem_cons_of_mem _ hu)) (by simp; omega) ?_
    rw [PH.upd_upd]
    exact hK

/-- A store of so many cells. -/
def xSt (n : Nat) (h : PH) (a : Addr) (vs : List Value) (K : PH → Prop) : Prop :=
  vs.length = n ∧ n ≠ 0 ∧ (∀ v ∈ vs, oneCell v = true) ∧ ∃ c el, h a.block = some (.cells c el (0, 0)) ∧ a.spot = none ∧ a.off + n ≤ c.size ∧ K (h.upd a.block (.cells (setN c a.off vs) el (0, 0)))

/-- The cells of what is appended. -/
def srcCells (h : PH) (z : Nat) : Value → List Value → Nat → Prop
  | .slice none n _, xs, m => n = 0 ∧ m = 0 ∧ xs = []
  | .slice (some b) n _, xs, m => m = n ∧ xs.length = n * z ∧ ∀ i, i < n * z → h.cell (b.add i) = xs[i]?
  | .string s, xs, m => m = s.size ∧ z = 1 ∧ xs = s.data.toList.map fun b => .int .u8 b.toNat
  | _, _, _ => False

/-- append to a slice of one's own (it begins where its block does, and nobody else looks at what is behind its length): a slice of its own again. -/
def xApp (h : PH) (el : TypeId) (z bytes : Nat) (base : Option Addr) (len cap : Nat) (src : Value) (K : Option Addr → Nat → Nat → PH → Prop) : Prop :=
  ∃ xs n, srcCells h z src xs n ∧ (∀ v ∈ xs, oneCell v = true) ∧ (2 * (len + n) + 192) * bytes ≤ 2 ^ 48 ∧
  match base with
  | none => len = 0 ∧ cap = 0 ∧ (n = 0 → K none 0 0 h) ∧ (n ≠ 0 → ∀ b cap' junk, h b = none → n ≤ cap' → List.length junk = (cap' - n) * z → K (some ⟨b, 0, none⟩) n cap' (h.upd b (.cells (xs ++ junk).toArray el (0, 0))))
  | some a => ∃ old rest, a = ⟨a.block, 0, none⟩ ∧ h a.block = some (.cells (old ++ rest).toArray el (0, 0)) ∧ List.length old = len * z ∧ List.length rest = (cap - len) * z ∧ len ≤ cap ∧
      ∀ b cap' junk, (h.del a.block) b = none → len + n ≤ cap' → List.length junk = (cap' - (len + n)) * z → K (some ⟨b, 0, none⟩) (len + n) cap' ((h.del a.block).upd b (.cells (old ++ xs ++ junk).toArray el (0, 0)))

/-- make([]T, len, cap) -/
def xMake (h : PH) (el : TypeId) (z : Array Value) (bytes : Nat) (len cap : Int) (K : Option Addr → Nat → Nat → PH → Prop) : Prop :=
  0 ≤ len ∧ len ≤ cap ∧ cap < 9223372036854775808 ∧ bytes * cap ≤ 2 ^ 48 ∧ ∀ b, h b = none → K (some ⟨b, 0, none⟩) len.toNat cap.toNat (h.upd b (.cells (List.replicate cap.toNat z.toList).flatten.toArray el (0, 0)))

def mapPut (es : Array MapEntry) (cl : Nat) (k v : Value) : Obj :=
  match findE es.toList k 0 with
  | some (i, _) => .map (es.modify i fun e => { e with key := k, val := v }) cl
  | none => .map (es.push { key := k, val := v, born := cl }) (cl + 1)
def xPut (P : Program) (key : TypeId) (h : PH) (m : Option Nat) (k v : Value) (K : PH → Prop) : Prop :=
  ∃ r es cl Sh, m = some r ∧ h r = some (.map es cl) ∧ KeyLaw P key Sh ∧ Sh k ∧ (∀ e ∈ es.toList, Sh (MapEntry.key e)) ∧ K (h.upd r (mapPut es cl k v))
def mapDel (es : Array MapEntry) (cl : Nat) (k : Value) : Obj :=
  match findE es.toList k 0 with
  | some (i, _) => .map (es.eraseIdxIfInBounds i) cl
  | none => .map es cl
def xDel (P : Program) (key : TypeId) (h : PH) (m : Option Nat) (k : Value) (K : PH → Prop) : Prop :=
  ∃ r es cl Sh, m = some r ∧ h r = some (.map es cl) ∧ KeyLaw P key Sh ∧ Sh k ∧ (∀ e ∈ es.toList, Sh (MapEntry.key e)) ∧ K (h.upd r (mapDel es cl k))
/-- The beginning of a range over a map. -/
def xRange (h : PH) (m : Option Nat) (K : Nat → PH → Prop) : Prop := ∃ r es cl, m = some r ∧ h r = some (.map es cl) ∧ ∀ b, h b = none → K b (h.upd b (.mapIter (some r) cl #[] cl))
/-- The next entry, whichever. -/
def xNext (h : PH) (r : Nat) (over : PH → Prop) (K : Value → Value → PH → Prop) : Prop :=
  ∃ m since seen last es cl, h r = some (.mapIter (some m) since seen last) ∧ h m = some (.map es cl) ∧ (seen.isEmpty = false → es.isEmpty = false → es.all (fun e => decide (e.born ≥ last)) = false) ∧
    ((∀ e ∈ es, e.born < since → seen.contains e.born = true) → over h) ∧ ∀ e ∈ es, seen.contains e.born = false → K e.key e.val (h.upd r (.mapIter (some m) since (seen.push e.born) cl))

theorem reads_getObj {P : Program} {h : PH} {r : Nat} {O : Obj} (hr : h r = some O) (hc : Obj.isCells O = false) : Reads P (getObj r) h O := fun W w st => by
  show Sem.run P (.getObj r .pure) w = _
  simp only [Sem.run, st.sh _ _ hr]
  cases O <;> simp only [Obj.isCells, Bool.true_eq_false] at hc <;> rfl

theorem does_setObj {P : Program} {h : PH} {r : Nat} {O O' : Obj} {K : Unit → PH → Prop} (hr : h r = some O) (hc : Obj.isCells O = false) (k : K () (h.upd r O')) : Does P (setObj r O') h K :=
  Does.of_dSem (s := setObj r O') ⟨O, hr, hc, k⟩

theorem findE_lt {k : Value} : ∀ {es : List MapEntry} {i j : Nat} {v : Value}, findE es k i = some (j, v) → i ≤ j ∧ ∃ e, es[j - i]? = some e ∧ Instr.sameBits 10000 k e.key = true ∧ e.val = v
  | [], i, j, v, h => by simp [findE] at h
  | e :: es, i, j, v, h => by
    unfold findE at h
    split at h
    · rename_i hs
      simp at h; obtain ⟨rfl, rfl⟩ := h
      exact ⟨Nat.le_refl _, e, by simp, hs, rfl⟩
    · obtain ⟨h1, e', h2, h3⟩ := findE_lt h
      refine ⟨by omega, e', ?_, h3⟩
      rw [show j - i = (j - (i + 1)) + 1 from by omega]; simpa using h2

theorem does_mapUpdate {P : Program} {t key el : TypeId} {h : PH} {m : Option Nat} {k v : Value} {K : PH → Prop} (ht : P.underlying t = some (.map key el)) (x : xPut P key h m k v K) :
    Does P (Instr.mapUpdate t (.map m) k v) h fun _ h' => K h' := by
  obtain ⟨r, es, cl, Sh, rfl, hr, law, hS, hE, hK⟩ := x
  unfold Instr.mapUpdate
  refine Does.read (reads_underlying ht) ?_
  refine Does.read (reads_getObj hr rfl) ?_
  refine Does.read (v := ()) (fun W w _ => law.check _ hS _ w) ?_
  refine Does.read (v := findE es.toList k 0) (fun W w _ => law.find _ _ hS hE w) ?_
  unfold mapPut at hK
  cases hf : findE es.toList k 0 with
  | none =>
    rw [hf] at hK
    exact does_setObj hr rfl hK
  | some p =>
    obtain ⟨i, u⟩ := p
    rw [hf] at hK
    simp only []
    obtain ⟨_, e, he, hs, _⟩ := findE_lt hf
    have he' : es[i]? = some e := by simpa using he
    refine Does.read (v := k) ?_ (does_setObj hr rfl hK)
    rw [he']
    have hs' : Instr.sameBits 10000 e.key k = true := by
      rw [law.symm _ _ (hE e (by rw [Array.mem_toList_iff]; exact Array.mem_of_getElem? he')) hS]; exact hs
    unfold Instr.keyThatStays
    simp only [Option.map_some, Option.getD_some, hs', if_true]
    exact Reads.pure _

theorem does_delete {P : Program} {t key el : TypeId} {h : PH} {m : Option Nat} {k : Value} {K : PH → Prop} {ty : TypeId} {ts : Array TypeId} (hts : ts[0]? = some t) (ht : P.underlying t = some (.map key el)) (x : xDel P key h m k K) :
    Does P (Builtin.delete_ ts ty #[.map m, k]) h fun v h' => v = .tuple #[] ∧ K h' := by
  obtain ⟨r, es, cl, Sh, rfl, hr, law, hS, hE, hK⟩ := x
  unfold Builtin.delete_
  rw [hts]
  simp only [List.getElem?_toArray, List.getElem?_cons_zero, List.getElem?_cons_succ]
  refine Does.read (reads_underlying ht) ?_
  refine Does.read (reads_getObj hr rfl) ?_
  refine Does.read (v := ()) (fun W w _ => law.check _ hS _ w) ?_
  refine Does.read (v := findE es.toList k 0) (fun W w _ => law.find _ _ hS hE w) ?_
  unfold mapDel at hK
  cases hf : findE es.toList k 0 with
  | none =>
    rw [hf] at hK
    exact Does.bind (does_setObj hr rfl (Does.pure ⟨rfl, hK⟩))
  | some p =>
    obtain ⟨i, u⟩ := p
    rw [hf] at hK
    exact Does.bind (does_setObj hr rfl (Does.pure ⟨rfl, hK⟩))

theorem does_choose {P : Program} {q : Question} {h : PH} {K : Nat → PH → Prop} (k : ∀ n, (q.forced = true → n = 0) → (q.forced = false → ∃ t, n = q.cut t) → K n h) : Does P (choose q) h K :=
  Does.of_dSem (s := choose q) k

theorem does_next {P : Program} {h : PH} {r : Nat} {over : PH → Prop} {K : Value → Value → PH → Prop} {sp : Option Nat} {ty : TypeId} (x : xNext h r over K) :
    Does P (Instr.next (.pointer (some ⟨r, 0, sp⟩)) false ty) h fun v h' => (v = .tuple #[.bool false] ∧ over h') ∨ ∃ k u, v = .tuple #[.bool true, k, u] ∧ K k u h' := by
  obtain ⟨m, since, seen, last, es, cl, hr, hm, hcond, hover, hgo⟩ := x
  unfold Instr.next
  simp only []
  refine Does.read (reads_getObj hr rfl) ?_
  simp only []
  refine Does.read (reads_getObj hm rfl) ?_
  simp only []
  have hif : (!seen.isEmpty && !es.isEmpty && es.all (fun e => decide (e.born ≥ last))) = false := by
    cases h1 : seen.isEmpty with
    | true => simp
    | false =>
      cases h2 : es.isEmpty with
      | true => simp
      | false => have := hcond h1 h2; simp only [Bool.not_false, Bool.true_and]; exact this
  rw [if_neg (by rw [hif]; simp)]
  generalize hl : (es.filter fun e => !seen.contains e.born) = left
  generalize ho : (left.filter fun e => decide (e.born < since)) = old
  generalize hn : (left.filter fun e => decide (e.born ≥ since)) = new
  generalize hc : (if old.isEmpty then #[none] else #[]) ++ (old ++ new).map some = cand
  refine Does.bind (does_choose fun n h0 h1 => ?_)
  have hpos : 0 < cand.size := by
    subst hc
    by_cases hoe : old.isEmpty = true
    · simp [hoe]; omega
    · have : 0 < old.size := by
        rcases Nat.eq_zero_or_pos old.size with h | h
        · exact absurd (by simpa [Array.isEmpty] using h) hoe
        · exact h
      simp [hoe]; omega
  have hlt : n < cand.size := by
    cases hq : (Question.mapNext cand.size).forced with
    | true => rw [h0 hq]; exact hpos
    | false => obtain ⟨t, rfl⟩ := h1 hq; exact Nat.mod_lt _ hpos
  rw [Array.getElem?_eq_getElem hlt]
  have hmem : cand[n] ∈ cand := Array.getElem_mem hlt
  generalize cand[n] = x at hmem
  cases x with
  | none =>
    simp only []
    refine Does.pure (.inl ⟨rfl, hover fun e he hb => ?_⟩)
    have hoe : old.isEmpty = true := by
      subst hc
      cases h : old.isEmpty with
      | true => rfl
      | false => simp [h] at hmem
    cases hs : seen.contains e.born with
    | true => rfl
    | false =>
      exfalso
      have : e ∈ old := by
        subst ho; subst hl
        simp [he, hb]
        simpa using hs
      have he : old = #[] := by simpa using hoe
      rw [he] at this; simp at this
  | some e =>
    simp only []
    have he : e ∈ left := by
      subst hc
      have : e ∈ old ∨ e ∈ new := by
        by_cases h : old.isEmpty = true
        · simp [h] at hmem; exact hmem
        · simp [h] at hmem; exact hmem
      rcases this with h | h
      · subst ho; simp at h; exact h.1
      · subst hn; simp at h; exact h.1
    subst hl
    simp at he
    refine Does.bind (does_setObj hr rfl (Does.pure (.inr ⟨_, _, rfl, hgo e he.1 (by simpa using he.2)⟩)))

theorem reads_typeInfo {P : Program} {h : PH} {t : TypeId} {i : TypeInfo} (hi : P.info? t = some i) : Reads P (typeInfo t) h i := by
  apply Reads.of_val?
  show val? P (match P.info? t with | some i => Pure.pure i | none => stuck "no such type") = _
  rw [hi]; rfl
theorem reads_zero {P : Program} {h : PH} {t : TypeId} {i : TypeInfo} {z : Value} (hi : P.info? t = some i) (hz : i.zero = some z) : Reads P (zeroValue t) h z := by
  refine (reads_typeInfo hi).bind ?_
  rw [hz]; exact Reads.pure _

theorem growBy_le (n : Nat) : ∀ (r c : Nat), c ≤ n → Builtin.growBy n r c ≤ 2 * n + 192
  | 0, c, h => by simp [Builtin.growBy]; omega
  | r + 1, c, h => by
    unfold Builtin.growBy
    split
    · omega
    · by_cases hc : c + (c + 768) / 4 ≤ n
      · exact growBy_le n r _ hc
      · have : Builtin.growBy n r (c + (c + 768) / 4) = c + (c + 768) / 4 := by
          cases r with
          | zero => rfl
          | succ r => unfold Builtin.growBy; rw [if_pos (by omega)]
        omega
theorem nextslicecap_le {n c : Nat} (h : c < n) : Builtin.nextslicecap n c ≤ 2 * n + 192 := by
  unfold Builtin.nextslicecap
  split
  · omega
  · split
    · omega
    · exact growBy_le n 4 c (by omega)

theorem reads_first {P : Program} {h : PH} {z : Nat} {v : Value} {xs : List Value} {n : Nat} (x : srcCells h z v xs n) : Reads P (Builtin.firstCells z n v) h xs.toArray := by
  unfold srcCells at x
  split at x
  · obtain ⟨rfl, rfl, rfl⟩ := x; exact Reads.pure _
  · obtain ⟨rfl, hl, hc⟩ := x
    show Reads P (loadCells _ _) h _
    rw [← hl]
    exact reads_cells (fun j hj => hc j (by omega))
  · obtain ⟨rfl, rfl, rfl⟩ := x
    rename_i s
    have : (List.map (fun b : UInt8 => Value.int .u8 b.toNat) s.data.toList).toArray = ((s.extract 0 s.size).data.map fun b => .int .u8 b.toNat) := by
      apply Array.ext'
      simp
    rw [this]
    exact Reads.pure _
  · exact x.elim
theorem reads_lenOf {P : Program} {h : PH} {z : Nat} {v : Value} {xs : List Value} {n : Nat} (x : srcCells h z v xs n) : Reads P (Builtin.lenOf v) h n := by
  unfold srcCells at x
  split at x
  · obtain ⟨rfl, rfl, rfl⟩ := x; exact Reads.pure _
  · obtain ⟨rfl, hl, hc⟩ := x; exact Reads.pure _
  · obtain ⟨rfl, rfl, rfl⟩ := x; exact Reads.pure _
  · exact x.elim
theorem srcCells_len {h : PH} {z : Nat} {v : Value} {xs : List Value} {n : Nat} (x : srcCells h z v xs n) : xs.length = n * z := by
  unfold srcCells at x
  split at x
  · obtain ⟨rfl, rfl, rfl⟩ := x; simp
  · obtain ⟨rfl, hl, hc⟩ := x; exact hl
  · obtain ⟨rfl, rfl, rfl⟩ := x; simp
  · exact x.elim

theorem setN_list (old mid rest xs : List Value) (h : mid.length = xs.length) : setN (old ++ mid ++ rest).toArray old.length xs = (old ++ xs ++ rest).toArray := by
  induction xs generalizing old mid with
  | nil =>
    have : mid = [] := List.eq_nil_of_length_eq_zero h
    subst this; simp [setN]
  | cons x xs ih =>
    cases mid with
    | nil => simp at h
    | cons m mid =>
      simp only [setN]
      have e : (old ++ m :: mid ++ rest).toArray.setIfInBounds old.length x = ((old ++ [x]) ++ mid ++ rest).toArray := by
        simp
      rw [e]
      have := ih (old ++ [x]) mid (by simpa using h)
      simp only [List.length_append, List.length_cons, List.length_nil, Nat.zero_add] at this
      rw [this]; simp

theorem does_append {P : Program} {t el : TypeId} {h : PH} {i : TypeInfo} {zv : Value} {base : Option Addr} {len cap : Nat} {src : Value} {K : Option Addr → Nat → Nat → PH → Prop} {ty : TypeId} {ts : Array TypeId} {xt : TypeId} {xd : TypeDesc}
    (hts : ts[0]? = some t) (hts1 : ts[1]? = some xt) (hxd : P.underlying xt = some xd) (hxi : ∀ k, xd ≠ .int k) (ht : P.underlying t = some (.slice el)) (hi : P.info? el = some i) (hz : i.zero = some zv) (hzs : zv.cells.size = i.size) (hb : 0 < i.bytes)
    (x : xApp h el i.size i.bytes base len cap src K) :
    Does P (Builtin.append_ ts ty #[.slice base len cap, src]) h fun v h' => ∃ a n c, v = .slice a n c ∧ K a n c h' := by
  obtain ⟨xs, n, hsrc, hone, hbound, x⟩ := x
  have hlen := srcCells_len hsrc
  unfold Builtin.append_
  rw [hts]
  simp only [List.getElem?_toArray, List.getElem?_cons_zero, List.getElem?_cons_succ]
  refine Does.read (reads_underlying ht) ?_
  simp only []
  have hso : Reads P (sizeOf el) h i.size := by
    have := reads_sizeOf (P := P) (h := h) (t := el) (by rw [hi]; rfl)
    simpa [Program.cellsOf, hi] using this
  refine Does.read hso ?_
  rw [hts1]
  simp only []
  refine Does.read (reads_underlying hxd) ?_
  refine Does.read (v := false) ?_ ?_
  · cases xd <;> first | exact absurd rfl (hxi _) | exact Reads.pure _
  simp only [Bool.false_eq_true, if_false, Bool.not_false, if_true, false_or]
  refine Does.read (reads_lenOf hsrc) ?_
  by_cases hfit : len + n ≤ cap
  · rw [if_pos hfit]
    refine Does.read (reads_first hsrc) ?_
    cases base with
    | none =>
      obtain ⟨rfl, rfl, hK0, _⟩ := x
      have hn : n = 0 := by omega
      subst hn
      exact Does.pure ⟨none, 0, 0, rfl, hK0 rfl⟩
    | some a =>
      obtain ⟨old, rest, ha, hblk, hold, hrest, hlc, hK⟩ := x
      simp only []
      have hspot : a.spot = none := by rw [ha]
      have hoff : a.off = 0 := by rw [ha]
      have hxr : xs.length ≤ rest.length := by rw [hlen, hrest]; exact Nat.mul_le_mul_right _ (by omega)
      have hsplit : rest = rest.take xs.length ++ rest.drop xs.length := (List.take_append_drop _ _).symm
      have hmid : (rest.take xs.length).length = xs.length := by simp; omega
      obtain ⟨e1, e2, e3⟩ := add_off (a := a) (len * i.size) hspot
      have hst : Does P (storeCells (a.add (len * i.size)) xs.toArray.toList) h fun _ h' => h' = h.upd a.block (.cells (old ++ xs ++ rest.drop xs.length).toArray el (0, 0)) := by
        apply Does.of_dSem
        refine dSem_storeCells (el := el) (c := (old ++ rest).toArray) e3 _ 0 _ (by rw [e1]; exact hblk) hone (by rw [e2, hoff]; simp; rw [← hold]; omega) ?_
        rw [e1, e2, hoff, ← hold]
        simp only [Nat.zero_add, Nat.add_zero]
        have := setN_list old (rest.take xs.length) (rest.drop xs.length) xs hmid
        rw [List.append_assoc, ← hsplit] at this
        rw [this]
      refine Does.bind (hst.mono ?_)
      rintro _ h' rfl
      refine Does.pure ⟨some a, len + n, cap, rfl, ?_⟩
      have := hK a.block cap (rest.drop xs.length) (by simp [PH.del]) hfit (by rw [List.length_drop, hrest, hlen, ← Nat.sub_mul]; congr 1; omega)
      have e : (h.del a.block).upd a.block (.cells (old ++ xs ++ rest.drop xs.length).toArray el (0, 0)) = h.upd a.block (.cells (old ++ xs ++ rest.drop xs.length).toArray el (0, 0)) := by
        funext z; simp only [PH.upd, PH.del]; split <;> rfl
      rw [e, ← ha] at this
      exact this
  · rw [if_neg hfit]
    refine Does.read (reads_typeInfo hi) ?_
    rw [if_neg (by simp; omega)]
    refine Does.read (reads_typeInfo hi) ?_
    have hcapn := nextslicecap_le (n := len + n) (c := cap) (by omega)
    rw [if_neg (by
      have := Nat.mul_le_mul_right i.bytes hcapn
      omega)]
    refine Does.bind (does_choose fun m _ hm => ?_)
    obtain ⟨tt, hm⟩ := hm rfl
    have hmn : len + n ≤ m := by rw [hm]; simp only [Question.cut]; omega
    refine Does.read (reads_typeInfo hi) ?_
    refine Does.read (v := ()) ?_ ?_
    · unfold askRoom
      split
      · intro W w st; rfl
      · exact Reads.pure _
    have hold : ∃ old : List Value, old.length = len * i.size ∧ Reads P (Builtin.firstCells i.size len (.slice base len cap)) h old.toArray ∧
        (∀ b junk, h b = none → List.length junk = (m - (len + n)) * i.size → ∃ h', h'.le (h.upd b (.cells (old ++ xs ++ junk).toArray el (0, 0))) ∧ K (some ⟨b, 0, none⟩) (len + n) m h') := by
      cases base with
      | none =>
        obtain ⟨rfl, rfl, _, hK⟩ := x
        refine ⟨[], by simp, Reads.pure _, fun b junk hb hj => ⟨_, PH.le_refl _, ?_⟩⟩
        have := hK (by omega) b m junk hb (by omega) (by simpa using hj)
        simpa using this
      | some a =>
        obtain ⟨old, rest, ha, hblk, hold, hrest, hlc, hK⟩ := x
        refine ⟨old, hold, ?_, fun b junk hb hj => ⟨(h.del a.block).upd b (.cells (old ++ xs ++ junk).toArray el (0, 0)), ?_, hK b m junk ?_ hmn hj⟩⟩
        · show Reads P (loadCells a (len * i.size)) h _
          rw [← hold]
          refine reads_cells fun j hj => ?_
          have hspot : a.spot = none := by rw [ha]
          have hoff : a.off = 0 := by rw [ha]
          obtain ⟨e1, e2, e3⟩ := add_off (a := a) j hspot
          unfold PH.cell
          rw [e1, hblk, e2, e3, hoff]
          simp [List.getElem?_append_left hj]
        · intro y O hy
          simp only [PH.upd, PH.del] at hy ⊢
          split at hy
          · rename_i e; subst e; simp at hy; simp [hy]
          · rename_i e
            rw [if_neg e]
            split at hy
            · cases hy
            · exact hy
        · simp only [PH.del]; split
          · rfl
          · exact hb
    obtain ⟨old, holdl, hro, hfin⟩ := hold
    refine Does.read hro ?_
    refine Does.read (reads_first hsrc) ?_
    refine Does.read (reads_zero hi hz) ?_
    have hjl : (Builtin.zeroCells zv.cells (m - (len + n))).toList.length = (m - (len + n)) * i.size := by
      simp [Builtin.zeroCells, hzs]
    show Does P (newRow el _ >>= fun r => Pure.pure (Value.slice (some r) (len + n) m)) h _
    unfold newRow
    intro W w st
    obtain ⟨h', hle, hK⟩ := hfin w.heap.size _ st.fresh hjl
    refine ⟨.slice (some ⟨w.heap.size, 0, none⟩) (len + n) m, { w with heap := w.heap.push (.cells (old.toArray ++ xs.toArray ++ Builtin.zeroCells zv.cells (m - (len + n))) el) }, h', rfl, ?_, _, _, _, rfl, hK⟩
    have e : (old ++ xs ++ (Builtin.zeroCells zv.cells (m - (len + n))).toList).toArray = old.toArray ++ xs.toArray ++ Builtin.zeroCells zv.cells (m - (len + n)) := by
      apply Array.ext'; simp
    have hp := st.push (.cells (old.toArray ++ xs.toArray ++ Builtin.zeroCells zv.cells (m - (len + n))) el (0, 0))
    rw [e] at hle
    exact hp.le hle

theorem wrap64_id {n : Int} (h0 : -9223372036854775808 ≤ n) (h1 : n < 9223372036854775808) : IntKind.i64.wrap n = n := by
  have e : IntKind.i64.wrap n = if 9223372036854775808 ≤ n % 18446744073709551616 then n % 18446744073709551616 - 18446744073709551616 else n % 18446744073709551616 := by
    simp [IntKind.wrap, IntKind.bits, IntKind.signed]
  rw [e]; split <;> omega

theorem range_zero (z : Array Value) (n : Nat) : (Array.range (n * z.size)).map (z[· % z.size]!) = (List.replicate n z.toList).flatten.toArray := by
  apply Array.ext'
  simp only [Array.toList_map, Array.toList_range]
  rcases Nat.eq_zero_or_pos z.size with h0 | hp
  · have : z = #[] := Array.eq_empty_of_size_eq_zero h0
    subst this; simp
  induction n with
  | zero => simp
  | succ n ih =>
    rw [List.replicate_succ', List.flatten_append, ← ih]
    rw [show (n + 1) * z.size = n * z.size + z.size from by rw [Nat.add_mul]; simp]
    rw [List.range_add, List.map_append]
    congr 1
    simp only [List.flatten_cons, List.flatten_nil, List.append_nil, List.map_map]
    apply List.ext_getElem (by simp)
    intro i h1 h2
    simp at h1
    simp [Nat.mod_eq_of_lt h1, h1]

theorem does_make {P : Program} {t el : TypeId} {h : PH} {i : TypeInfo} {zv : Value} {len cap : Int} {k k' : IntKind} {K : Option Addr → Nat → Nat → PH → Prop}
    (ht : P.underlying t = some (.slice el)) (hi : P.info? el = some i) (hz : i.zero = some zv) (hzs : zv.cells.size = i.size) (hsp : 0 < i.size)
    (x : xMake h el zv.cells i.bytes len cap K) : Does P (Instr.makeSlice t (.int k len) (.int k' cap)) h fun v h' => ∃ a n c, v = .slice a n c ∧ K a n c h' := by
  obtain ⟨h0, h1, h2, h3, hK⟩ := x
  unfold Instr.makeSlice
  refine Does.read (reads_underlying ht) ?_
  refine Does.read (v := len) (Reads.bind (v := (k, len)) (Reads.pure _) (Reads.pure _)) ?_
  refine Does.read (v := cap) (Reads.bind (v := (k', cap)) (Reads.pure _) (Reads.pure _)) ?_
  refine Does.read (reads_typeInfo hi) ?_
  simp only []
  have e1 : IntKind.i64.wrap len = len := wrap64_id (by omega) (by omega)
  have e2 : IntKind.i64.wrap cap = cap := wrap64_id (by omega) h2
  rw [e1, e2]
  rw [if_neg (by simp; omega)]
  refine Does.read (v := ()) ?_ ?_
  · unfold askRoom
    split
    · intro W w st; rfl
    · exact Reads.pure _
  have hso : Reads P (sizeOf el) h i.size := by
    have := reads_sizeOf (P := P) (h := h) (t := el) (by rw [hi]; rfl)
    simpa [Program.cellsOf, hi] using this
  refine Does.read hso ?_
  have fin : ∀ zz : Array Value, (Array.range (cap.toNat * i.size)).map (zz[· % zz.size]!) = (List.replicate cap.toNat zv.cells.toList).flatten.toArray →
      Does P (newRow el ((Array.range (cap.toNat * i.size)).map (zz[· % zz.size]!)) >>= fun r => Pure.pure (Value.slice (some r) len.toNat cap.toNat)) h fun v h' => ∃ a n c, v = .slice a n c ∧ K a n c h' := by
    intro zz e
    rw [e]
    unfold newRow
    intro W w st
    exact ⟨.slice (some ⟨w.heap.size, 0, none⟩) len.toNat cap.toNat, _, _, rfl, st.push _, _, _, _, rfl, hK _ st.fresh⟩
  by_cases hc : cap.toNat * i.size = 0
  · rw [if_pos hc]
    refine Does.read (Reads.pure #[]) (fin #[] ?_)
    have : cap.toNat = 0 := by rcases Nat.mul_eq_zero.1 hc with h | h <;> omega
    simp [this]
  · rw [if_neg hc]
    refine Does.read (reads_zero hi hz) ?_
    refine Does.read (Reads.pure _) (fin _ ?_)
    rw [← hzs]; exact range_zero _ _

/-! ### The operations -/

/-- A call's value, typed. -/
def xCall (P : Program) (f : FuncId) (args : Array Value) (ls : List Leaf) (h : PH) (K : Value → PH → Prop) : Prop := Meets P f args h fun v h' => oRes ls v fun u => K u h'

/-- What an operation that writes, makes memory or calls asks, and its value. -/
def gRaw (P : Program) (o : Oper) (ρ : Operand → Value) (h : PH) (K : Value → PH → Prop) : Prop :=
  match o.op with
  | .store t a x =>
    match P.info? t, ρ a with
    | some i, .pointer (some p) => xSt i.size h p (ρ x).cells.toList (K undef)
    | _, _ => False
  | .makeSlice t l c =>
    match P.underlying t, ρ l, ρ c with
    | some (.slice el), .int _ len, .int _ cap => (match P.info? el with
      | some i => (match i.zero with
        | some zv => (match decide (zv.cells.size = i.size ∧ 0 < i.size) with
          | true => xMake h el zv.cells i.bytes len cap fun a n m h' => K (.slice a n m) h'
          | false => False)
        | none => False)
      | none => False)
    | _, _, _ => False
  | .mapUpdate t m k x | .insert t m k x =>
    match P.underlying t, ρ m with
    | some (.map key _), .map mm => xPut P key h mm (ρ k) (ρ x) (K undef)
    | _, _ => False
  | .range t x =>
    match P.underlying t, ρ x with
    | some (.map _ _), .map m => xRange h m fun b h' => K (.pointer (some ⟨b, 0, none⟩)) h'
    | _, _ => False
  | .next it false =>
    match ρ it with
    | .pointer (some ⟨r, 0, none⟩) => xNext h r (K (.tuple #[.bool false])) fun k u h' => K (.tuple #[.bool true, k, u]) h'
    | _ => False
  | .call { callee := .builtin .append, args := as, argTypes := ts } =>
    match ts[0]?, ts[1]?, as.map ρ with
    | some t, some xt, ⟨[.slice base len cap, src]⟩ => (match P.underlying t, P.underlying xt with
      | some (.slice el), some xd => (match P.info? el with
        | some i => (match i.zero with
          | some zv => (match decide (zv.cells.size = i.size ∧ 0 < i.bytes) && !(match xd with | .int _ => true | _ => false) with
            | true => xApp h el i.size i.bytes base len cap src fun a n m h' => K (.slice a n m) h'
            | false => False)
          | none => False)
        | none => False)
      | _, _ => False)
    | _, _, _ => False
  | .call { callee := .builtin .delete, args := as, argTypes := ts } =>
    match ts[0]?, as.map ρ with
    | some t, ⟨[.map m, k]⟩ => (match P.underlying t with
      | some (.map key _) => xDel P key h m k (K (.tuple #[]))
      | _ => False)
    | _, _ => False
  | _ => dSem P (execOp ρ o) h fun n h' => match n with
    | .value v => K v h'
    | .skip => K undef h'
    | .enter f args => xCall P f args (resOf P o.type) h' K
    | _ => False

/-- What comes of it. -/
def dNext (P : Program) (K : Value → PH → Prop) : Next → PH → Prop
  | .value v, h => K v h
  | .skip, h => K undef h
  | .enter f args, h => Meets P f args h K
  | _, _ => False

theorem does_value {P : Program} {s : Sem Value} {h : PH} {K : Value → PH → Prop} (d : Does P s h K) : Does P (do pure (Next.value (← s)) : Sem Next) h (dNext P K) := Does.bind (d.mono fun _ _ k => Does.pure k)
theorem does_skip {P : Program} {s : Sem Unit} {h : PH} {K : Value → PH → Prop} (d : Does P s h fun _ h' => K undef h') : Does P (do s; pure Next.skip : Sem Next) h (dNext P K) := Does.bind (d.mono fun _ _ k => Does.pure k)

theorem gRaw_sound {P : Program} {o : Oper} {ρ : Operand → Value} {h : PH} {K : Value → PH → Prop} (hk : gRaw P o ρ h K) : Does P (execOp ρ o) h (dNext P K) := by
  have gen : dSem P (execOp ρ o) h (fun n h' => match n with | .value v => K v h' | .skip => K undef h' | .enter f args => xCall P f args (resOf P o.type) h' K | _ => False) → Does P (execOp ρ o) h (dNext P K) := by
    intro hk
    refine (Does.of_dSem hk).mono fun n h' k => ?_
    cases n <;> first | exact k.elim | exact k | exact Meets.mono k fun v h'' hv => oRes_same hv
  unfold gRaw at hk
  split at hk
  · -- store
    rename_i t a x ho
    split at hk
    · rename_i i p hi hp
      obtain ⟨hl, hz, hone, c, el, hblk, hsp, hfit, hK⟩ := hk
      unfold execOp; rw [ho]; simp only []
      refine does_skip ?_
      unfold Instr.storeAt Instr.sureAddr; rw [hp]
      refine Does.read (Reads.pure p) ?_
      unfold storeVar
      have hso : Reads P (sizeOf t) h i.size := by
        have := reads_sizeOf (P := P) (h := h) (t := t) (by rw [hi]; rfl)
        simpa [Program.cellsOf, hi] using this
      refine Does.read hso ?_
      have hsz : (ρ x).cells.size = i.size := by simpa using hl
      rw [if_neg (by simp [hsz])]
      apply Does.of_dSem
      exact dSem_storeCells (el := el) hsp _ 0 h c hblk hone (by omega) hK
    · exact hk.elim
  · -- makeSlice
    rename_i t l c ho
    split at hk
    · rename_i el k len k' cap ht hl hc
      split at hk
      · rename_i i hi
        split at hk
        · rename_i zv hz
          split at hk
          · rename_i hd
            have hd := of_decide_eq_true hd
            unfold execOp; rw [ho]; simp only []
            refine does_value ?_
            rw [hl, hc]
            exact (does_make ht hi hz hd.1 hd.2 hk).mono fun v h' ⟨a, n, m, e, k⟩ => by rw [e]; exact k
          · exact hk.elim
        · exact hk.elim
      · exact hk.elim
    · exact hk.elim
  · -- mapUpdate
    rename_i t m k x ho
    split at hk
    · rename_i key el r ht hm
      unfold execOp; rw [ho]; simp only []
      refine does_skip ?_
      rw [hm]
      exact does_mapUpdate ht hk
    · exact hk.elim
  · -- insert
    rename_i t m k x ho
    split at hk
    · rename_i key el r ht hm
      unfold execOp; rw [ho]; simp only []
      refine does_skip ?_
      rw [hm]
      exact does_mapUpdate ht hk
    · exact hk.elim
  · -- range
    rename_i t x ho
    split at hk
    · rename_i key el r ht hx
      obtain ⟨r, es, cl, rfl, hr, hK⟩ := hk
      unfold execOp; rw [ho]; simp only []
      refine does_value ?_
      unfold Instr.range
      refine Does.read (reads_underlying ht) ?_
      rw [hx]; simp only []
      refine Does.read (reads_getObj hr rfl) ?_
      refine Does.read (Reads.pure _) ?_
      exact Does.new fun b hb => Does.pure (hK b hb)
    · exact hk.elim
  · -- next
    rename_i it ho
    split at hk
    · rename_i r hr
      unfold execOp; rw [ho]; simp only []
      refine does_value ?_
      rw [hr]
      refine (does_next hk).mono ?_
      rintro v h' (⟨rfl, k⟩ | ⟨x, u, rfl, k⟩) <;> exact k
    · exact hk.elim
  · -- append
    rename_i as ts ho
    split at hk
    · rename_i t xt base len cap src ht0 ht1 has
      split at hk
      · rename_i el xd hel hxd
        split at hk
        · rename_i i hi
          split at hk
          · rename_i zv hz
            split at hk
            · rename_i hd
              simp only [Bool.and_eq_true, decide_eq_true_eq, Bool.not_eq_true'] at hd
              unfold execOp; rw [ho]; simp only []
              refine Does.read (v := { target := .builtin .append ts o.type (as.map fun | .const _ => true | _ => false), args := as.map ρ }) (Reads.pure _) ?_
              show Does P (do pure (Next.value (← Builtin.append_ ts o.type (as.map ρ)))) h _
              refine does_value ?_
              rw [has]
              refine (does_append ht0 ht1 hxd ?_ hel hi hz hd.1.1 hd.1.2 hk).mono fun v h' ⟨a, n, m, e, k⟩ => by rw [e]; exact k
              intro k e; subst e; simp at hd
            · exact hk.elim
          · exact hk.elim
        · exact hk.elim
      · exact hk.elim
    · exact hk.elim
  · -- delete
    rename_i as ts ho
    split at hk
    · rename_i t r k ht0 has
      split at hk
      · rename_i key el ht
        unfold execOp; rw [ho]; simp only []
        refine Does.read (v := { target := .builtin .delete ts o.type (as.map fun | .const _ => true | _ => false), args := as.map ρ }) (Reads.pure _) ?_
        show Does P (do pure (Next.value (← Builtin.delete_ ts o.type (as.map ρ)))) h _
        refine does_value ?_
        rw [has]
        exact (does_delete ht0 ht hk).mono fun v h' ⟨e, k⟩ => by rw [e]; exact k
      · exact hk.elim
    · exact hk.elim
  · exact gen hk

/-- The operations that 'fRaw' takes. -/
def isFlt : Op → Bool
  | .alloc _ | .box _ _ | .buildSlice _ _ _ | .store _ _ _ | .insert _ _ _ _ | .mapUpdate _ _ _ _ | .makeMap _ _ | .makeSlice _ _ _ | .range _ _ | .next _ _ => false
  | .call { callee := .builtin b, .. } => (match b with | .len | .cap | .min | .max => true | _ => false)
  | .call _ => false
  | _ => true

def gOp (P : Program) (o : Oper) (e : Env) (h : PH) (K : Value → PH → Prop) : Prop :=
  match known e o with
  | true => gRaw P o (evD e) h K
  | false => False

/-- Any operation, in the order of the text. -/
def aOp (P : Program) (o : Oper) (e : Env) (h : PH) (K : Value → PH → Prop) : Prop :=
  match isFlt o.op with
  | true => fOp P o e h fun v => K v h
  | false => gOp P o e h K

theorem gOp_sound {P : Program} {o : Oper} {e : Env} {h : PH} {K : Value → PH → Prop} (hk : gOp P o e h K) {W : World} {a : Act} {w : World} (f : Fits e a) (st : St W h w) (Q : Exit → Act → World → Prop) :
    o.wp P a w (fun a' w' => ∃ v h', a' = a.put o.dst v ∧ St W h' w' ∧ K v h') Q := by
  unfold gOp at hk
  split at hk
  · rename_i hn
    obtain ⟨n, w', h', hr, st', k⟩ := gRaw_sound hk W w st
    unfold Oper.wp
    rw [known_exec f hn, hr]
    cases n <;> first | exact k.elim | skip
    · exact ⟨_, h', rfl, st', k⟩
    · exact ⟨_, h', rfl, st', k⟩
    · rename_i fn args
      refine (k W w' st').mono ?_
      rintro e w'' ⟨v, h'', rfl, st'', k⟩
      exact ⟨v, h'', rfl, st'', k⟩
  · exact hk.elim

theorem aOp_sound {P : Program} {o : Oper} {e : Env} {h : PH} {K : Value → PH → Prop} (hk : aOp P o e h K) {W : World} {a : Act} {w : World} (f : Fits e a) (st : St W h w) (Q : Exit → Act → World → Prop) :
    o.wp P a w (fun a' w' => ∃ v h', a' = a.put o.dst v ∧ St W h' w' ∧ K v h') Q := by
  unfold aOp at hk
  split at hk
  · obtain ⟨v, k, hr⟩ := fOp_sound hk
    unfold Oper.wp
    rw [hr W a w f st]
    exact ⟨v, h, rfl, st, k⟩
  · exact gOp_sound hk f st Q

end Go.Sx

/-
  SX, part 5: regions, in the text's order and in any order.
-/
namespace Go.Sx
open Go

/-- How an operation of a region is taken: one that only reads, of cells that nobody turns; one that acts; one that acts when all others that read have been taken. -/
inductive Kd where
  | flt | eff | brk

abbrev Items := List (Nat × Kd)
def dstsOf (ops : Array Oper) (l : Items) : List Nat := l.filterMap fun p => (ops[p.1]?).bind (·.dst)

/-- Slots but those of 'D', and what is deferred, are as they were. -/
structure Keep (D : List Nat) (a a' : Act) : Prop where
  s : a'.tmps.size = a.tmps.size
  g : ∀ t, t ∉ D → a'.tmps[t]? = a.tmps[t]?
  d : a'.defers = a.defers
theorem Keep.refl (D : List Nat) (a : Act) : Keep D a a := ⟨rfl, fun _ _ => rfl, rfl⟩
theorem Keep.trans {D : List Nat} {a b c : Act} (x : Keep D a b) (y : Keep D b c) : Keep D a c := ⟨y.1.trans x.1, fun t ht => (y.2 t ht).trans (x.2 t ht), y.3.trans x.3⟩
theorem Keep.mono {D D' : List Nat} {a b : Act} (x : Keep D a b) (h : ∀ t, t ∈ D → t ∈ D') : Keep D' a b := ⟨x.1, fun t ht => x.2 t fun hm => ht (h t hm), x.3⟩
theorem Keep.put (D : List Nat) (a : Act) (d : Option Nat) (v : Value) (h : ∀ t, d = some t → t ∈ D) : Keep D a (a.put d v) := by
  cases d with
  | none => exact Keep.refl _ _
  | some t =>
    refine ⟨by simp [Act.put], fun s hs => ?_, rfl⟩
    have : t ≠ s := fun e => hs (e ▸ h t rfl)
    simp only [Act.put]
    rw [Array.getElem?_setIfInBounds_ne this]
theorem Fits.drop {e : Env} {a a' : Act} {D : List Nat} (f : Fits e a) (k : Keep D a a') : Fits (e.drop D) a' :=
  ⟨fun t v h => by obtain ⟨h1, h2⟩ := Env.get_drop h; rw [k.2 t h1]; exact f.g t v h2⟩

/-! ### One after the other -/
def seqH (P : Program) (ops : Array Oper) (S : World → Prop) (Q : Exit → Act → World → Prop) : Items → (Act → World → Prop) → Act → World → Prop
  | [], R, a, w => R a w
  | (i, .flt) :: is, R, a, w => ∃ o v, ops[i]? = some o ∧ YieldsIf P ops S o v a ∧ seqH P ops S Q is R (a.put o.dst v) w
  | (i, .eff) :: is, R, a, w => (∃ o, ops[i]? = some o ∧ Region.wanted o (yielded ops a.tmps) = false ∧ seqH P ops S Q is R (a.put o.dst undef) w) ∨
      ∃ o, ops[i]? = some o ∧ Region.wanted o (yielded ops a.tmps) = true ∧ o.wp P a w (fun a' w' => S w' ∧ seqH P ops S Q is R a' w') Q
  | (i, .brk) :: is, R, a, w => (∃ o, ops[i]? = some o ∧ Region.wanted o (yielded ops a.tmps) = false ∧ seqH P ops S Q is R (a.put o.dst undef) w) ∨
      ∃ o, ops[i]? = some o ∧ Region.wanted o (yielded ops a.tmps) = true ∧ o.wp P a w (fun a' w' => seqH P ops S Q is R a' w') Q

theorem seqH_append (P : Program) (ops : Array Oper) (S : World → Prop) (Q : Exit → Act → World → Prop) (R : Act → World → Prop) : ∀ (l m : Items), seqH P ops S Q (l ++ m) R = seqH P ops S Q l (seqH P ops S Q m R)
  | [], m => by funext a w; rfl
  | (i, kd) :: l, m => by
    have ih := seqH_append P ops S Q R l m
    funext a w
    cases kd <;> simp only [List.cons_append, seqH, ih]

/-- In the order of the text. -/
theorem seqH_text {P : Program} {ops : Array Oper} {S : World → Prop} {Q : Exit → Act → World → Prop} : ∀ (l : List Nat) (a : Act) (w : World), seqH P ops S Q (l.map fun i => (i, Kd.brk)) (fun a w => Q .normal a w) a w → wpOps P ops Q l a w
  | [], _, _, h => h
  | i :: l, a, w, h => by
    rw [wpOps_cons]
    rcases h with ⟨o, ho, hw, h⟩ | ⟨o, ho, hw, h⟩
    · unfold wpOp; rw [ho]; simp only [hw, Bool.false_eq_true, if_false]
      exact seqH_text l _ _ h
    · unfold wpOp; rw [ho]; simp only [hw, if_true]
      exact .inl (Oper.wp_mono (fun a' w' h' => seqH_text l a' w' h') h)

/-! ### In any order -/
def wpAnyB (P : Program) (ops : Array Oper) (Q : Exit → Act → World → Prop) (S : World → Prop) (B : Nat → Bool) : Nat → Array Bool → Act → World → Prop
  | 0, listed, a, w => Region.ready .any ops listed = [] ∧ Q .normal a w
  | fuel + 1, listed, a, w =>
    (Region.ready .any ops listed = [] → Q .normal a w) ∧
    ∀ i ∈ Region.ready .any ops listed, wpOp P ops Q i (fun a' w' => (B i = true ∨ S w') ∧ wpAnyB P ops Q S B fuel (listed.setIfInBounds i true) a' w') a w

section
variable {P : Program} {ops : Array Oper} {Q : Exit → Act → World → Prop} {S : World → Prop} {B : Nat → Bool}

/-- What is listed was ready: what it waits for is listed. -/
def Closed (ops : Array Oper) (listed : Array Bool) : Prop := ∀ k ok, ops[k]? = some ok → listed.getD k false = true → ∀ e ∈ ok.after, Region.binds .any e = true → listed.getD e.on false = true
/-- Number 'j' waits for number 'i', by way of others, too. -/
def reach (ops : Array Oper) : Nat → Nat → Nat → Bool
  | 0, _, _ => false
  | n + 1, j, i => match ops[j]? with
    | some o => (o.after.any fun e => Region.binds .any e && Nat.beq e.on i) || o.after.any fun e => Region.binds .any e && reach ops n e.on i
    | none => false
theorem reach_open {listed : Array Bool} (cl : Closed ops listed) {i : Nat} (hi : listed.getD i true = false) : ∀ (n j : Nat) (oj : Oper), ops[j]? = some oj → reach ops n j i = true → ∃ e ∈ oj.after, Region.binds .any e = true ∧ listed.getD e.on false ≠ true
  | 0, _, _, _, h => by cases h
  | n + 1, j, oj, hj, h => by
    unfold reach at h
    rw [hj] at h
    have h2 : ∃ e ∈ oj.after, Region.binds .any e = true ∧ (Nat.beq e.on i = true ∨ reach ops n e.on i = true) := by
      rcases Bool.or_eq_true_iff.1 h with h | h
      · obtain ⟨e, he, hc⟩ := Array.any_eq_true'.1 h
        simp only [Bool.and_eq_true] at hc
        exact ⟨e, he, hc.1, .inl hc.2⟩
      · obtain ⟨e, he, hc⟩ := Array.any_eq_true'.1 h
        simp only [Bool.and_eq_true] at hc
        exact ⟨e, he, hc.1, .inr hc.2⟩
    obtain ⟨e, he, hbd, hc⟩ := h2
    refine ⟨e, he, hbd, fun hl => ?_⟩
    rcases hc with h1 | h1
    · have h1 := Nat.eq_of_beq_eq_true h1
      rw [h1] at hl
      rcases Nat.lt_or_ge i listed.size with h' | h'
      · simp [h'] at hi hl; rw [hi] at hl; cases hl
      · simp [Array.getElem?_eq_none h'] at hl
    · cases ho : ops[e.on]? with
      | none =>
        cases n with
        | zero => cases h1
        | succ n => unfold reach at h1; rw [ho] at h1; cases h1
      | some ok =>
        obtain ⟨e', he', hb', hn⟩ := reach_open cl hi n e.on ok ho h1
        exact hn (cl _ _ ho hl e' he' hb')
theorem Closed.set {listed : Array Bool} (cl : Closed ops listed) {j : Nat} (hj : j ∈ Region.ready .any ops listed) : Closed ops (listed.setIfInBounds j true) := by
  intro k ok hk hl e he hb
  obtain ⟨h0, o, ho, hall⟩ := mem_ready.1 hj
  by_cases hjk : j = k
  · subst hjk
    rw [ho] at hk; cases hk
    exact getD_set_true (hall e he hb)
  · rw [getD_set_ne false hjk] at hl
    exact getD_set_true (cl k ok hk hl e he hb)
theorem Closed.nil (n : Nat) : Closed ops (Array.replicate n false) := by
  intro k ok hk hl
  exfalso
  revert hl
  simp only [Array.getD_eq_getD_getElem?, Array.getElem?_replicate]
  split <;> simp

theorem wpAny_of_B : ∀ (fuel : Nat) (listed : Array Bool) (a : Act) (w : World), wpAnyB P ops Q S B fuel listed a w → wpAny P .any ops Q fuel listed a w
  | 0, _, _, _, h => h
  | fuel + 1, _, _, _, h => ⟨h.1, fun i hi => wpOp_mono (fun a' w' h' => wpAny_of_B fuel _ a' w' h'.2) (h.2 i hi)⟩

theorem wpAnyB_first {i : Nat} {oi : Oper} {v : Value} (hi : ops[i]? = some oi) (hsel : ∀ (j : Nat) (o : Oper) cs b, ops[j]? = some o → o.op ≠ .select cs b)
    (hQ : ∀ c a w, Q (.panic c) (a.put oi.dst v) w → Q (.panic c) a w) :
    ∀ (fuel : Nat) (listed : Array Bool) (a : Act) (w : World),
      (∀ j oj, ops[j]? = some oj → j ≠ i → listed.getD j true = false → (∀ e ∈ oj.after, Region.binds .any e = true → e.on ≠ i) → oi.apart ops oj = true) →
      ((∀ j, B j = false) ∨ Closed ops listed ∧ ∀ j oj, ops[j]? = some oj → j ≠ i → B j = true → ∃ n, reach ops n j i = true) →
      i ∈ Region.ready .any ops listed → YieldsIf P ops S oi v a → S w →
      wpAnyB P ops Q S B fuel (listed.setIfInBounds i true) (a.put oi.dst v) w → wpAnyB P ops Q S B (fuel + 1) listed a w := by
  intro fuel
  induction fuel with
  | zero =>
    intro listed a w _ _ hr hy hS H
    refine ⟨fun h => (by rw [h] at hr; cases hr), fun j hj => ?_⟩
    by_cases hji : j = i
    · subst hji; exact hy.wpOp hi hS ⟨.inr hS, H⟩
    · have := ready_mono hj hji
      rw [H.1] at this
      cases this
  | succ fuel ih =>
    intro listed a w hfree hB hr hy hS H
    refine ⟨fun h => (by rw [h] at hr; cases hr), fun j hj => ?_⟩
    by_cases hji : j = i
    · subst hji; exact hy.wpOp hi hS ⟨.inr hS, H⟩
    · have h1 := H.2 j (ready_mono hj hji)
      obtain ⟨hjun, oj, hoj, hall⟩ := mem_ready.1 hj
      have hnot : ∀ e ∈ oj.after, Region.binds .any e = true → e.on ≠ i := fun e he hb heq => by
        have h1 := hall e he hb
        have h0 := (mem_ready.1 hr).1
        rw [heq] at h1
        rcases Nat.lt_or_ge i listed.size with h' | h'
        · simp [h'] at h0 h1; rw [h0] at h1; cases h1
        · simp [Array.getElem?_eq_none h'] at h1
      have hBj : B j = false := by
        cases hb : B j with
        | false => rfl
        | true =>
          rcases hB with hB | ⟨cl, hB⟩
          · rw [hB] at hb; cases hb
          · obtain ⟨n, hn⟩ := hB j oj hoj hji hb
            obtain ⟨e, he, hbd, hon⟩ := reach_open cl (mem_ready.1 hr).1 n j oj hoj hn
            exact absurd (hall e he hbd) hon
      have h2 := wpOp_putIf hoj (hfree j oj hoj hji hjun hnot) (fun cs b => hsel i oi cs b hi) (fun cs b => hsel j oj cs b hoj) hQ hy h1
      have hun : ∀ {k : Nat}, (listed.setIfInBounds j true).getD k true = false → listed.getD k true = false := fun {k} hun => by
        by_cases hjk : j = k
        · subst hjk; exact hjun
        · rw [getD_set_ne true hjk] at hun; exact hun
      refine wpOp_mono (fun a' w' h3 => ?_) h2
      have hS' : S w' := h3.2.1.resolve_left (by rw [hBj]; simp)
      refine ⟨.inr hS', ih (listed.setIfInBounds j true) a' w' (fun k ok hk hki hu hno => hfree k ok hk hki (hun hu) hno) (hB.imp id fun h => ⟨h.1.set hj, h.2⟩) (ready_mono hr (Ne.symm hji)) h3.1 hS' ?_⟩
      rw [Array.setIfInBounds_comm _ _ hji]
      exact h3.2.2

/-- Every operation that acts last waits for number 'i'. -/
def brkWait (ops : Array Oper) (ord : Items) (i : Nat) : Bool := ord.all fun p => match p.2 with
  | .brk => Nat.beq p.1 i || match ops[p.1]? with
    | some _ => reach ops ops.size p.1 i
    | none => true
  | _ => true
def noFlt (l : Items) : Bool := l.all fun p => match p.2 with | .brk => true | _ => false
/-- The order 'ord' may be taken for all. -/
def okOrd (ops : Array Oper) (all : Items) : Items → Array Bool → Bool
  | [], listed => (Region.ready .any ops listed).isEmpty
  | (i, .flt) :: r, listed => (Region.ready .any ops listed).contains i && Region.free .any ops listed i && brkWait ops all i && okOrd ops all r (listed.setIfInBounds i true)
  | (i, .eff) :: r, listed => (Region.ready .any ops listed == [i]) && okOrd ops all r (listed.setIfInBounds i true)
  | (i, .brk) :: r, listed => (Region.ready .any ops listed == [i]) && noFlt r && okOrd ops all r (listed.setIfInBounds i true)

def isBrk (all : Items) (i : Nat) : Bool := all.any fun p => Nat.beq p.1 i && match p.2 with | .brk => true | _ => false

theorem brkWait_spec {all : Items} {i j : Nat} {oj : Oper} (h : brkWait ops all i = true) (hj : ops[j]? = some oj) (hji : j ≠ i) (hb : isBrk all j = true) : ∃ n, reach ops n j i = true := by
  unfold isBrk at hb
  obtain ⟨p, hp, hpb⟩ := List.any_eq_true.1 hb
  simp only [Bool.and_eq_true] at hpb
  have hpj : p.1 = j := Nat.eq_of_beq_eq_true hpb.1
  have := List.all_eq_true.1 h p hp
  obtain ⟨p1, p2⟩ := p
  cases p2 <;> simp only [Bool.false_eq_true, and_false] at hpb
  simp only [] at hpj
  subst hpj
  simp only [hj, Bool.or_eq_true] at this
  rcases this with h | h
  · exact absurd (Nat.eq_of_beq_eq_true h) hji
  · exact ⟨_, h⟩

theorem ord_sound (hs : Region.noSelect ops = true) (hQ : ∀ c a w, ¬ Q (.panic c) a w) {all : Items} : ∀ (l : Items) (listed : Array Bool) (a : Act) (w : World), Closed ops listed → (∀ p ∈ l, p ∈ all) → (S w ∨ noFlt l = true) → okOrd ops all l listed = true →
    seqH P ops S Q l (fun a w => Q .normal a w) a w → wpAnyB P ops Q S (isBrk all) l.length listed a w
  | [], listed, a, w, _, _, _, hok, h => ⟨by simpa [okOrd] using hok, h⟩
  | (i, .flt) :: r, listed, a, w, cl, hall, hS, hok, h => by
    obtain ⟨o, v, ho, hy, h⟩ := h
    simp only [okOrd, Bool.and_eq_true] at hok
    obtain ⟨⟨⟨hr, hf⟩, hbw⟩, hok⟩ := hok
    have hSw : S w := hS.resolve_right (by simp [noFlt])
    refine wpAnyB_first ho (Region.noSelect_spec hs) (fun c a w hp => absurd hp (hQ c _ w)) r.length listed a w (Region.free_spec ho hf) (.inr ⟨cl, fun j oj hj hji hb => brkWait_spec hbw hj hji hb⟩) (by simpa using hr) hy hSw ?_
    exact ord_sound hs hQ r _ _ _ (cl.set (by simpa using hr)) (fun p hp => hall p (List.mem_cons_of_mem _ hp)) (.inl hSw) hok h
  | (i, .eff) :: r, listed, a, w, cl, hall, hS, hok, h => by
    simp only [okOrd, Bool.and_eq_true, beq_iff_eq] at hok
    obtain ⟨hr, hok⟩ := hok
    have hSw : S w := hS.resolve_right (by simp [noFlt])
    refine ⟨fun h0 => (by rw [h0] at hr; cases hr), fun j hj => ?_⟩
    rw [hr] at hj
    simp only [List.mem_singleton] at hj
    subst hj
    have hall' := fun p hp => hall p (List.mem_cons_of_mem _ hp)
    have cl' := cl.set (j := j) (by rw [hr]; simp)
    rcases h with ⟨o, ho, hw, h⟩ | ⟨o, ho, hw, h⟩
    · unfold wpOp; rw [ho]; simp only [hw, Bool.false_eq_true, if_false]
      exact ⟨.inr hSw, ord_sound hs hQ r _ _ _ cl' hall' (.inl hSw) hok h⟩
    · unfold wpOp; rw [ho]; simp only [hw, if_true]
      exact .inl (Oper.wp_mono (fun a' w' h' => ⟨.inr h'.1, ord_sound hs hQ r _ _ _ cl' hall' (.inl h'.1) hok h'.2⟩) h)
  | (i, .brk) :: r, listed, a, w, cl, hall, hS, hok, h => by
    simp only [okOrd, Bool.and_eq_true, beq_iff_eq] at hok
    obtain ⟨⟨hr, hnf⟩, hok⟩ := hok
    refine ⟨fun h0 => (by rw [h0] at hr; cases hr), fun j hj => ?_⟩
    rw [hr] at hj
    simp only [List.mem_singleton] at hj
    subst hj
    have hB : isBrk all j = true := List.any_eq_true.2 ⟨(j, .brk), hall _ (List.mem_cons_self ..), by simp⟩
    have hall' := fun p hp => hall p (List.mem_cons_of_mem _ hp)
    have cl' := cl.set (j := j) (by rw [hr]; simp)
    rcases h with ⟨o, ho, hw, h⟩ | ⟨o, ho, hw, h⟩
    · unfold wpOp; rw [ho]; simp only [hw, Bool.false_eq_true, if_false]
      exact ⟨.inl hB, ord_sound hs hQ r _ _ _ cl' hall' (.inr hnf) hok h⟩
    · unfold wpOp; rw [ho]; simp only [hw, if_true]
      exact .inl (Oper.wp_mono (fun a' w' h' => ⟨.inl hB, ord_sound hs hQ r _ _ _ cl' hall' (.inr hnf) hok h'⟩) h)

/-- A region that draws its order. -/
theorem region_any {id : Nat} {a : Act} {w : World} (hm : P.follows .mixedOrders = true) (hs : Region.noSelect ops = true) (hQ : ∀ c a w, ¬ Q (.panic c) a w) {ord : Items} (hlen : ord.length = ops.size)
    (hok : okOrd ops ord ord (Array.replicate ops.size false) = true) (hS : S { w with drawn := w.drawn + 1 }) (h : seqH P ops S Q ord (fun a w => Q .normal a w) a { w with drawn := w.drawn + 1 }) : (Code.region id ops true).wp P Q a w := by
  refine wp_region_any hm (wpAny_of_B _ _ _ _ (S := S) (B := isBrk ord) ?_)
  rw [← hlen]
  exact ord_sound hs hQ ord _ _ _ (Closed.nil _) (fun p hp => hp) (.inl hS) (by rw [hlen]; exact hok) h
/-- So far, the order may be taken: what is listed behind it. -/
def okPre (ops : Array Oper) (all : Items) : Items → Array Bool → Option (Array Bool)
  | [], listed => some listed
  | (i, .flt) :: r, listed => if ((Region.ready .any ops listed).contains i && Region.free .any ops listed i && brkWait ops all i) = true then okPre ops all r (listed.setIfInBounds i true) else none
  | (i, .eff) :: r, listed => if (Region.ready .any ops listed == [i]) = true then okPre ops all r (listed.setIfInBounds i true) else none
  | (_, .brk) :: _, _ => none

theorem pre_sound (hs : Region.noSelect ops = true) (hQ : ∀ c a w, ¬ Q (.panic c) a w) {all : Items} {R : Act → World → Prop} {m : Nat} {listed' : Array Bool} (fin : ∀ a w, S w → Closed ops listed' → R a w → wpAnyB P ops Q S (isBrk all) m listed' a w) : ∀ (l : Items) (listed : Array Bool) (a : Act) (w : World), S w → Closed ops listed → okPre ops all l listed = some listed' →
    seqH P ops S Q l R a w → wpAnyB P ops Q S (isBrk all) (l.length + m) listed a w
  | [], listed, a, w, hS, cl, hok, h => by
    simp only [okPre, Option.some.injEq] at hok
    subst hok
    simpa using fin a w hS cl h
  | (i, .flt) :: r, listed, a, w, hS, cl, hok, h => by
    obtain ⟨o, v, ho, hy, h⟩ := h
    unfold okPre at hok
    split at hok
    · rename_i hc
      simp only [Bool.and_eq_true] at hc
      obtain ⟨⟨hr, hf⟩, hbw⟩ := hc
      have := pre_sound hs hQ fin r _ (a.put o.dst v) w hS (cl.set (by simpa using hr)) hok h
      rw [List.length_cons, show r.length + 1 + m = (r.length + m) + 1 from by omega]
      refine wpAnyB_first ho (Region.noSelect_spec hs) (fun c a w hp => absurd hp (hQ c _ w)) (r.length + m) listed a w (Region.free_spec ho hf) (.inr ⟨cl, fun j oj hj hji hb => brkWait_spec hbw hj hji hb⟩) (by simpa using hr) hy hS this
    · cases hok
  | (i, .eff) :: r, listed, a, w, hS, cl, hok, h => by
    unfold okPre at hok
    split at hok
    · rename_i hr
      have hr := eq_of_beq hr
      rw [List.length_cons, show r.length + 1 + m = (r.length + m) + 1 from by omega]
      refine ⟨fun h0 => (by rw [h0] at hr; cases hr), fun j hj => ?_⟩
      rw [hr] at hj
      simp only [List.mem_singleton] at hj
      subst hj
      have cl' := cl.set (j := j) (by rw [hr]; simp)
      rcases h with ⟨o, ho, hw, h⟩ | ⟨o, ho, hw, h⟩
      · unfold wpOp; rw [ho]; simp only [hw, Bool.false_eq_true, if_false]
        exact ⟨.inr hS, pre_sound hs hQ fin r _ _ _ hS cl' hok h⟩
      · unfold wpOp; rw [ho]; simp only [hw, if_true]
        exact .inl (Oper.wp_mono (fun a' w' h' => ⟨.inr h'.1, pre_sound hs hQ fin r _ _ _ h'.1 cl' hok h'.2⟩) h)
    · cases hok
  | (i, .brk) :: r, listed, a, w, hS, cl, hok, h => by unfold okPre at hok; cases hok

/-- Two that act may come up: either first. -/
def ok2 (ops : Array Oper) (pre A B : Items) : Bool :=
  match okPre ops (pre ++ (A ++ B)) pre (Array.replicate ops.size false), A, B with
  | some listed, (i, .eff) :: A', (j, .eff) :: B' => (Region.ready .any ops listed == [i, j]) && Nat.beq (pre.length + (A'.length + 1)) ops.size && Nat.beq A'.length B'.length &&
      okOrd ops (pre ++ (A ++ B)) A' (listed.setIfInBounds i true) && okOrd ops (pre ++ (A ++ B)) B' (listed.setIfInBounds j true)
  | _, _, _ => false
theorem region_any2 {id : Nat} {a : Act} {w : World} (hm : P.follows .mixedOrders = true) (hs : Region.noSelect ops = true) (hQ : ∀ c a w, ¬ Q (.panic c) a w) {pre A B : Items}
    (hok : ok2 ops pre A B = true) (hS : S { w with drawn := w.drawn + 1 }) (h : seqH P ops S Q pre (fun a w => seqH P ops S Q A (fun a w => Q .normal a w) a w ∧ seqH P ops S Q B (fun a w => Q .normal a w) a w) a { w with drawn := w.drawn + 1 }) : (Code.region id ops true).wp P Q a w := by
  refine wp_region_any hm (wpAny_of_B _ _ _ _ (S := S) (B := isBrk (pre ++ (A ++ B))) ?_)
  unfold ok2 at hok
  split at hok
  · rename_i listed i A' j B' hp
    simp only [Bool.and_eq_true] at hok
    obtain ⟨⟨⟨⟨hr, hl⟩, hAB⟩, ha⟩, hb⟩ := hok
    have hr := eq_of_beq hr
    have hl := Nat.eq_of_beq_eq_true hl
    have hAB := Nat.eq_of_beq_eq_true hAB
    have memA : ∀ p ∈ A', p ∈ pre ++ ((i, Kd.eff) :: A' ++ (j, Kd.eff) :: B') := fun p hp => List.mem_append_right _ (List.mem_append_left _ (List.mem_cons_of_mem _ hp))
    have memB : ∀ p ∈ B', p ∈ pre ++ ((i, Kd.eff) :: A' ++ (j, Kd.eff) :: B') := fun p hp => List.mem_append_right _ (List.mem_append_right _ (List.mem_cons_of_mem _ hp))
    generalize pre ++ ((i, Kd.eff) :: A' ++ (j, Kd.eff) :: B') = all at hp ha hb memA memB ⊢
    have main := pre_sound hs hQ (all := all) (m := A'.length + 1) (listed' := listed) (R := fun a w => seqH P ops S Q ((i, .eff) :: A') (fun a w => Q .normal a w) a w ∧ seqH P ops S Q ((j, .eff) :: B') (fun a w => Q .normal a w) a w) ?_ pre _ _ _ hS (Closed.nil _) hp h
    · rw [hl] at main; exact main
    intro a w hS cl ⟨h1, h2⟩
    have one : ∀ (k : Nat) (C : Items) (a : Act) (w : World), S w → k ∈ Region.ready .any ops listed → C.length = A'.length → (∀ p ∈ C, p ∈ all) → okOrd ops all C (listed.setIfInBounds k true) = true → seqH P ops S Q ((k, .eff) :: C) (fun a w => Q .normal a w) a w →
        wpOp P ops Q k (fun a' w' => (isBrk all k = true ∨ S w') ∧ wpAnyB P ops Q S (isBrk all) A'.length (listed.setIfInBounds k true) a' w') a w := by
      intro k C a w hS hk hC mC hc h
      have go : ∀ a' w', S w' → seqH P ops S Q C (fun a w => Q .normal a w) a' w' → wpAnyB P ops Q S (isBrk all) A'.length (listed.setIfInBounds k true) a' w' := by
        intro a' w' hS' h'
        have := ord_sound hs hQ C (listed.setIfInBounds k true) a' w' (cl.set hk) mC (.inl hS') hc h'
        rw [hC] at this
        exact this
      rcases h with ⟨o, ho, hw, h⟩ | ⟨o, ho, hw, h⟩
      · unfold wpOp; rw [ho]; simp only [hw, Bool.false_eq_true, if_false]
        exact ⟨.inr hS, go _ _ hS h⟩
      · unfold wpOp; rw [ho]; simp only [hw, if_true]
        exact .inl (Oper.wp_mono (fun a' w' h' => ⟨.inr h'.1, go a' w' h'.1 h'.2⟩) h)
    refine ⟨fun h0 => (by rw [h0] at hr; cases hr), fun k hk => ?_⟩
    have hk' := hk
    rw [hr] at hk
    simp only [List.mem_cons, List.not_mem_nil, or_false] at hk
    rcases hk with rfl | rfl
    · exact one k A' a w hS hk' rfl memA ha h1
    · exact one k B' a w hS hk' hAB.symm memB hb h2
  · cases hok
end

end Go.Sx

/-
  SX, part 6: a region's operations over slots that are known: 'a && b', 'a || b' as one branch; soundness.
-/
namespace Go.Sx
open Go

/-- Is an operation guarded by 'j is want', or by one of the group? -/
def inGrp (o : Oper) (j : Nat) (want : Bool) (seen : List Nat) : Bool :=
  match o.guard with
  | some (j', w') => (Nat.beq j' j && (w' == want)) || seen.any (Nat.beq j')
  | none => false
def spanGrp (ops : Array Oper) (j : Nat) (want : Bool) : List Nat → Items → Items × Items
  | _, [] => ([], [])
  | seen, (i, kd) :: rest =>
    match ops[i]? with
    | some o => (match inGrp o j want seen with
      | true => ((i, kd) :: (spanGrp ops j want (i :: seen) rest).1, (spanGrp ops j want (i :: seen) rest).2)
      | false => ([], (i, kd) :: rest))
    | none => ([], (i, kd) :: rest)

theorem spanGrp_append (ops : Array Oper) (j : Nat) (want : Bool) : ∀ (l : Items) (seen : List Nat), (spanGrp ops j want seen l).1 ++ (spanGrp ops j want seen l).2 = l
  | [], _ => rfl
  | (i, kd) :: rest, seen => by
    unfold spanGrp
    split
    · split
      · simp only [List.cons_append]; rw [spanGrp_append ops j want rest]
      · rfl
    · rfl

def nodupN : List Nat → Bool
  | [] => true
  | x :: xs => !xs.any (Nat.beq x) && nodupN xs

/-- 'if b is want: the group; else nothing': then what follows, of the group's answer, or b. -/
def xSc (b want : Bool) (grp : (Bool → PH → Prop) → Prop) (K : Bool → PH → Prop) (h : PH) : Prop := (b = want → grp K) ∧ (b = !want → K b h)

def stepD (P : Program) (o : Oper) (kd : Kd) (hs : PH) (e : Env) (h : PH) (K : Value → PH → Prop) : Prop :=
  match kd with
  | .flt => fOp P o e hs fun v => K v h
  | .eff => aOp P o e h fun v h' => hs.le h' ∧ K v h'
  | .brk => aOp P o e h K

def inG (G : List (Nat × Bool)) (j : Nat) (want : Bool) : Bool := G.any fun g => Nat.beq g.1 j && (g.2 == want)
/-- 'x && y', 'x || y': the slot of x, of y, what is answered without y. -/
def pickOf (o : Oper) (want : Bool) : Option (Nat × Nat × Nat) :=
  match o.op, o.dst, want with
  | .pick (.tmp c) (.tmp x) (.const (.bool false)), some d, true => some (c, x, d)
  | .pick (.tmp c) (.const (.bool true)) (.tmp x), some d, false => some (c, x, d)
  | _, _, _ => none
def isEff : Kd → Bool
  | .eff => true
  | _ => false

def dList (P : Program) (ops : Array Oper) (hs : PH) : Nat → List (Nat × Bool) → Items → Env → PH → (Env → PH → Prop) → Prop
  | 0, _, _, _, _, _ => False
  | _ + 1, _, [], e, h, K => K e h
  | n + 1, G, (i, kd) :: rest, e, h, K =>
    match ops[i]? with
    | none => False
    | some o =>
      match o.guard with
      | none => stepD P o kd hs e h fun v h' => dList P ops hs n G rest (e.put o.dst v) h' K
      | some (j, want) =>
        match inG G j want with
        | true => stepD P o kd hs e h fun v h' => dList P ops hs n G rest (e.put o.dst v) h' K
        | false =>
          match (ops[j]?).bind (·.dst) with
          | none => False
          | some dj =>
            match e.get dj, spanGrp ops j want [] ((i, kd) :: rest) with
            | some (.bool b), (grp, (ip, kp) :: rest') =>
              (match ops[ip]? with
              | none => False
              | some op =>
                match pickOf op want with
                | none => False
                | some (c, dx, dp) =>
                  match Nat.beq c dj && !(dstsOf ops grp).any (Nat.beq dj) && nodupN (dstsOf ops grp) && !isEff kp && (match op.guard with | none => true | some (j', w') => inG G j' w') with
                  | true => xSc b want (fun J => dList P ops hs n ((j, want) :: G) grp e h fun e' h' => match e'.get dx with
                      | some (.bool r) => J r h'
                      | _ => False) (fun r h' => dList P ops hs n G rest' ((dp, .bool r) :: e.drop (dstsOf ops grp)) h' K) h
                  | false => False)
            | _, _ => False

theorem yields_bool {ops : Array Oper} {a : Act} {j d : Nat} {b : Bool} (hd : (ops[j]?).bind (·.dst) = some d) (ha : a.tmps[d]? = some (.bool b)) : yielded ops a.tmps j = some b := by
  unfold yielded
  simp only [hd, Option.bind_some, ha]

theorem yields_undef {ops : Array Oper} {a : Act} {i : Nat} {o : Oper} (ho : ops[i]? = some o) : yielded ops (a.put o.dst undef).tmps i = none := by
  unfold yielded
  simp only [ho, Option.bind_some]
  cases hd : o.dst with
  | none => rfl
  | some d =>
    simp only [Option.bind_some, Act.put]
    by_cases hlt : d < a.tmps.size
    · simp [hlt, undef]
    · simp [Array.getElem?_eq_none (xs := a.tmps.setIfInBounds d undef) (i := d) (by simpa using hlt)]

theorem yields_keep {ops : Array Oper} {a a' : Act} {D : List Nat} {i : Nat} (k : Keep D a a') (h : ∀ d, (ops[i]?).bind (·.dst) = some d → d ∉ D) : yielded ops a'.tmps i = yielded ops a.tmps i := by
  unfold yielded
  cases hd : (ops[i]?).bind (·.dst) with
  | none => rfl
  | some d => simp only [Option.bind_some]; rw [k.2 d (h d hd)]

theorem dstsOf_cons {ops : Array Oper} {i : Nat} {kd : Kd} {o : Oper} {l : Items} (ho : ops[i]? = some o) : dstsOf ops ((i, kd) :: l) = o.dst.toList ++ dstsOf ops l := by
  unfold dstsOf
  rw [List.filterMap_cons]
  simp only [ho, Option.bind_some]
  cases o.dst <;> rfl

theorem nodupN_append {xs ys : List Nat} (h : nodupN (xs ++ ys) = true) : nodupN ys = true ∧ ∀ x ∈ xs, x ∉ ys := by
  induction xs with
  | nil => exact ⟨h, fun x hx => by cases hx⟩
  | cons x xs ih =>
    simp only [List.cons_append, nodupN, Bool.and_eq_true, Bool.not_eq_true', List.any_append, Bool.or_eq_false_iff] at h
    obtain ⟨⟨_, h1⟩, h2⟩ := h
    obtain ⟨i1, i2⟩ := ih h2
    refine ⟨i1, fun y hy => ?_⟩
    rcases List.mem_cons.1 hy with rfl | hy
    · intro hm
      have := List.any_eq_false.1 h1 y hm
      simp at this
    · exact i2 y hy

section
variable {P : Program} {ops : Array Oper} {S : World → Prop} {Q : Exit → Act → World → Prop}

/-- A group that is not wanted. -/
theorem skip_sound {j dj : Nat} {want b : Bool} (hdj : (ops[j]?).bind (·.dst) = some dj) (hb : b ≠ want) {w : World} : ∀ (l : Items) (seen : List Nat) (a : Act) (R : Act → World → Prop),
    a.tmps[dj]? = some (.bool b) → (∀ s ∈ seen, yielded ops a.tmps s = none ∧ ∀ d, (ops[s]?).bind (·.dst) = some d → d ∉ dstsOf ops (spanGrp ops j want seen l).1) → dj ∉ dstsOf ops (spanGrp ops j want seen l).1 → nodupN (dstsOf ops (spanGrp ops j want seen l).1) = true →
    (∀ a', Keep (dstsOf ops (spanGrp ops j want seen l).1) a a' → a'.defers = a.defers → R a' w) → seqH P ops S Q (spanGrp ops j want seen l).1 R a w
  | [], seen, a, R, _, _, _, _, hR => hR a (Keep.refl _ _) rfl
  | (i, kd) :: rest, seen, a, R, ha, hseen, hdn, hnd, hR => by
    unfold spanGrp at hseen hdn hnd hR ⊢
    cases ho : ops[i]? with
    | none => simp only [ho] at hR ⊢; exact hR a (Keep.refl _ _) rfl
    | some o =>
      simp only [ho] at hseen hdn hnd hR ⊢
      cases hg : inGrp o j want seen with
      | false => simp only [hg] at hR ⊢; exact hR a (Keep.refl _ _) rfl
      | true =>
        simp only [hg] at hseen hdn hnd hR ⊢
        rw [dstsOf_cons ho] at hseen hdn hnd hR
        have hwant : Region.wanted o (yielded ops a.tmps) = false := by
          unfold inGrp at hg
          unfold Region.wanted
          cases hgd : o.guard with
          | none => rw [hgd] at hg; cases hg
          | some gw =>
            obtain ⟨j', w'⟩ := gw
            rw [hgd] at hg
            simp only [Bool.or_eq_true, Bool.and_eq_true, beq_iff_eq] at hg
            rcases hg with ⟨h1, h2⟩ | h
            · have := Nat.eq_of_beq_eq_true h1
              subst this; subst h2
              simp only [yields_bool hdj ha]
              simp [hb]
            · obtain ⟨s, hs, hsb⟩ := List.any_eq_true.1 h
              have := Nat.eq_of_beq_eq_true hsb
              subst this
              simp [(hseen _ hs).1]
        obtain ⟨hnd', hdisj⟩ := nodupN_append hnd
        have hk : Keep o.dst.toList a (a.put o.dst undef) := Keep.put _ _ _ _ (fun t ht => by simp [ht])
        have hrest : seqH P ops S Q (spanGrp ops j want (i :: seen) rest).1 R (a.put o.dst undef) w := by
          refine skip_sound hdj hb rest (i :: seen) (a.put o.dst undef) R ?_ ?_ (fun h => hdn (List.mem_append_right _ h)) hnd' ?_
          · rw [hk.2 dj (fun h => hdn (List.mem_append_left _ h))]; exact ha
          · intro s hs
            rcases List.mem_cons.1 hs with rfl | hs
            · refine ⟨yields_undef ho, fun d hd => ?_⟩
              simp only [ho, Option.bind_some] at hd
              exact hdisj d (by simp [hd])
            · obtain ⟨h1, h2⟩ := hseen s hs
              exact ⟨by rw [yields_keep hk (fun d hd h => h2 d hd (List.mem_append_left _ h))]; exact h1, fun d hd h => h2 d hd (List.mem_append_right _ h)⟩
          · intro a' hk' hd'
            refine hR a' ((hk.mono fun t ht => List.mem_append_left _ ht).trans (hk'.mono fun t ht => List.mem_append_right _ ht)) ?_
            rw [hd']
            cases o.dst <;> rfl
        cases kd with
        | flt => exact ⟨o, undef, ho, .inr ⟨hwant, rfl⟩, hrest⟩
        | eff => exact .inl ⟨o, ho, hwant, hrest⟩
        | brk => exact .inl ⟨o, ho, hwant, hrest⟩

theorem pickOf_spec {o : Oper} {want : Bool} {c x d : Nat} (h : pickOf o want = some (c, x, d)) : o.dst = some d ∧ ((want = true ∧ o.op = .pick (.tmp c) (.tmp x) (.const (.bool false))) ∨ (want = false ∧ o.op = .pick (.tmp c) (.const (.bool true)) (.tmp x))) := by
  unfold pickOf at h
  split at h
  · rename_i h1 h2; simp at h; obtain ⟨rfl, rfl, rfl⟩ := h; exact ⟨h2, .inl ⟨rfl, h1⟩⟩
  · rename_i h1 h2; simp at h; obtain ⟨rfl, rfl, rfl⟩ := h; exact ⟨h2, .inr ⟨rfl, h1⟩⟩
  · cases h

theorem getD_of {t : Array Value} {i : Nat} {v : Value} (h : t[i]? = some v) : t.getD i undef = v := by
  simp [Array.getElem?_eq_some_iff] at h
  obtain ⟨h1, h2⟩ := h
  simp [Array.getD, h1, h2]

/-- 'x && y' when both are known. -/
theorem pick_run {o : Oper} {want : Bool} {c x d : Nat} (h : pickOf o want = some (c, x, d)) {a : Act} {b : Bool} (hc : a.tmps[c]? = some (.bool b)) (r : Bool) (hr : b = want → a.tmps[x]? = some (.bool r)) (hr' : b = !want → r = b) (w : World) :
    (execOp a.eval o).run P w = .ok (.value (.bool r)) w := by
  obtain ⟨_, hp⟩ := pickOf_spec h
  have ec : a.eval (.tmp c) = .bool b := getD_of hc
  rcases hp with ⟨rfl, hp⟩ | ⟨rfl, hp⟩
  · unfold execOp; rw [hp]; simp only [ec]
    show Sem.run P (pure (Next.value (if b = true then a.eval (.tmp x) else a.eval (.const (.bool false))))) w = _
    cases b with
    | true => have := hr rfl; rw [if_pos rfl]; rw [show a.eval (.tmp x) = .bool r from getD_of this]; rfl
    | false => have := hr' rfl; subst this; rfl
  · unfold execOp; rw [hp]; simp only [ec]
    show Sem.run P (pure (Next.value (if b = true then a.eval (.const (.bool true)) else a.eval (.tmp x)))) w = _
    cases b with
    | false => have := hr rfl; rw [if_neg (by simp)]; rw [show a.eval (.tmp x) = .bool r from getD_of this]; rfl
    | true => have := hr' rfl; subst this; rfl
end

/-- The slots that a region writes are there. -/
def InB (ops : Array Oper) (m : Nat) : Prop := ∀ (i : Nat) (o : Oper) (t : Nat), ops[i]? = some o → o.dst = some t → t < m

theorem dList_sound {P : Program} {ops : Array Oper} {W : World} {hs : PH} {Q : Exit → Act → World → Prop} {m : Nat} (hm : InB ops m) : ∀ (n : Nat) (G : List (Nat × Bool)) (l : Items) (e : Env) (h : PH) (K : Env → PH → Prop) (a : Act) (w : World) (R : Act → World → Prop),
    dList P ops hs n G l e h K → Fits e a → St W h w → m ≤ a.tmps.size → (∀ g ∈ G, ∃ d, (ops[g.1]?).bind (·.dst) = some d ∧ d ∉ dstsOf ops l ∧ a.tmps[d]? = some (.bool g.2)) →
    (∀ e' h' a' w', Fits e' a' → St W h' w' → Keep (dstsOf ops l) a a' → K e' h' → R a' w') → seqH P ops (St W hs) Q l R a w := by
  intro n
  induction n with
  | zero => intro G l e h K a w R hd; exact hd.elim
  | succ n ih =>
    intro G l e h K a w R hd hf st hsz hG hR
    cases l with
    | nil => exact hR e h a w hf st (Keep.refl _ _) hd
    | cons p rest =>
      obtain ⟨i, kd⟩ := p
      unfold dList at hd
      cases ho : ops[i]? with
      | none => simp only [ho] at hd
      | some o =>
        simp only [ho] at hd
        rw [dstsOf_cons ho] at hG hR
        -- one operation that is wanted
        have step : Region.wanted o (yielded ops a.tmps) = true → stepD P o kd hs e h (fun v h' => dList P ops hs n G rest (e.put o.dst v) h' K) → seqH P ops (St W hs) Q ((i, kd) :: rest) R a w := by
          intro hw hd
          have go : ∀ v h' w', St W h' w' → dList P ops hs n G rest (e.put o.dst v) h' K → seqH P ops (St W hs) Q rest R (a.put o.dst v) w' := by
            intro v h' w' st' hd
            have hk : Keep o.dst.toList a (a.put o.dst v) := Keep.put _ _ _ _ (fun t ht => by simp [ht])
            refine ih G rest (e.put o.dst v) h' K (a.put o.dst v) w' R hd (hf.put o.dst v fun t ht => Nat.lt_of_lt_of_le (hm i o t ho ht) hsz) st' (by rw [hk.1]; exact hsz) ?_ ?_
            · intro g hg
              obtain ⟨d, h1, h2, h3⟩ := hG g hg
              exact ⟨d, h1, fun hx => h2 (List.mem_append_right _ hx), by rw [hk.2 d (fun hx => h2 (List.mem_append_left _ hx))]; exact h3⟩
            · intro e' h'' a' w'' hf' st'' hk' hK
              exact hR e' h'' a' w'' hf' st'' ((hk.mono fun t ht => List.mem_append_left _ ht).trans (hk'.mono fun t ht => List.mem_append_right _ ht)) hK
          cases kd with
          | flt =>
            obtain ⟨v, hK, hr⟩ := fOp_sound (show fOp P o e hs fun v => dList P ops hs n G rest (e.put o.dst v) h K from hd)
            exact ⟨o, v, ho, .inl ⟨hw, fun w' st' => hr W a w' hf st'⟩, go v h w st hK⟩
          | eff =>
            refine .inr ⟨o, ho, hw, Oper.wp_mono ?_ (aOp_sound (show aOp P o e h fun v h' => hs.le h' ∧ dList P ops hs n G rest (e.put o.dst v) h' K from hd) hf st Q)⟩
            rintro a' w' ⟨v, h', rfl, st', hle, hK⟩
            exact ⟨st'.le hle, go v h' w' st' hK⟩
          | brk =>
            refine .inr ⟨o, ho, hw, Oper.wp_mono ?_ (aOp_sound (show aOp P o e h fun v h' => dList P ops hs n G rest (e.put o.dst v) h' K from hd) hf st Q)⟩
            rintro a' w' ⟨v, h', rfl, st', hK⟩
            exact go v h' w' st' hK
        cases hgd : o.guard with
        | none => simp only [hgd] at hd; exact step (by unfold Region.wanted; rw [hgd]) hd
        | some gw =>
          obtain ⟨j, want⟩ := gw
          simp only [hgd] at hd
          cases hin : inG G j want with
          | true =>
            simp only [hin] at hd
            refine step ?_ hd
            unfold inG at hin
            obtain ⟨g, hg, hgb⟩ := List.any_eq_true.1 hin
            simp only [Bool.and_eq_true, beq_iff_eq] at hgb
            have e1 : g.1 = j := Nat.eq_of_beq_eq_true hgb.1
            obtain ⟨d, h1, _, h3⟩ := hG g hg
            unfold Region.wanted; rw [hgd]
            rw [← e1, ← hgb.2]
            simp only [yields_bool h1 h3]
            simp
          | false =>
            simp only [hin] at hd
            cases hdj : (ops[j]?).bind (·.dst) with
            | none => simp only [hdj] at hd
            | some dj =>
              simp only [hdj] at hd
              split at hd
              · rename_i b grp ip kp rest' hb hspan
                split at hd
                · exact hd.elim
                · rename_i op hop
                  split at hd
                  · exact hd.elim
                  · rename_i c dx dp hpick
                    split at hd
                    · rename_i hcond
                      simp only [Bool.and_eq_true, Bool.not_eq_true'] at hcond
                      obtain ⟨⟨⟨⟨hc1, hc2⟩, hc3⟩, hc4⟩, hc5⟩ := hcond
                      have hcdj : c = dj := Nat.eq_of_beq_eq_true hc1
                      subst hcdj
                      have hdn : c ∉ dstsOf ops grp := fun hm => by
                        have := List.any_eq_false.1 hc2 c hm
                        simp at this
                      have happ := spanGrp_append ops j want ((i, kd) :: rest) []
                      rw [hspan] at happ
                      simp only [] at happ
                      have hall : o.dst.toList ++ dstsOf ops rest = dstsOf ops grp ++ (dp :: dstsOf ops rest') := by
                        rw [← dstsOf_cons (kd := kd) ho, ← happ]
                        unfold dstsOf
                        rw [List.filterMap_append]
                        congr 1
                        have := dstsOf_cons (kd := kp) (l := rest') hop
                        unfold dstsOf at this
                        rw [this, (pickOf_spec hpick).1]; rfl
                      rw [hall] at hG hR
                      have hab : a.tmps[c]? = some (.bool b) := hf.g c _ hb
                      rw [← happ, seqH_append]
                      -- the pick, and what follows
                      have tail : ∀ (r : Bool) (h' : PH) (a' : Act) (w' : World), Keep (dstsOf ops grp) a a' → St W h' w' → (b = want → a'.tmps[dx]? = some (.bool r)) → (b = !want → r = b) →
                          dList P ops hs n G rest' ((dp, .bool r) :: e.drop (dstsOf ops grp)) h' K → seqH P ops (St W hs) Q ((ip, kp) :: rest') R a' w' := by
                        intro r h' a' w' hk st' hx hx' hd
                        have hrun : ∀ w, (execOp a'.eval op).run P w = .ok (.value (.bool r)) w := fun w => pick_run hpick (by rw [hk.2 c hdn]; exact hab) r hx hx' w
                        have hdst := (pickOf_spec hpick).1
                        have hwp : Region.wanted op (yielded ops a'.tmps) = true := by
                          unfold Region.wanted
                          cases hg : op.guard with
                          | none => rfl
                          | some gw =>
                            obtain ⟨j', w''⟩ := gw
                            rw [hg] at hc5
                            simp only [] at hc5
                            unfold inG at hc5
                            obtain ⟨g, hgm, hgb⟩ := List.any_eq_true.1 hc5
                            simp only [Bool.and_eq_true, beq_iff_eq] at hgb
                            obtain ⟨d, h1, h2, h3⟩ := hG g hgm
                            have e1 : g.1 = j' := Nat.eq_of_beq_eq_true hgb.1
                            rw [← e1, ← hgb.2]
                            have : a'.tmps[d]? = some (.bool g.2) := by rw [hk.2 d (fun hx => h2 (List.mem_append_left _ hx))]; exact h3
                            simp only [yields_bool h1 this]
                            simp
                        have hkp : Keep [dp] a' (a'.put op.dst (.bool r)) := Keep.put _ _ _ _ (fun t ht => by rw [hdst] at ht; simp at ht; simp [ht])
                        have hdl : dp < a'.tmps.size := by rw [hk.1]; exact Nat.lt_of_lt_of_le (hm ip op dp hop hdst) hsz
                        have hfit : Fits ((dp, .bool r) :: e.drop (dstsOf ops grp)) (a'.put op.dst (.bool r)) := by
                          have := (hf.drop hk).put (some dp) (.bool r) (fun t ht => by simp at ht; subst ht; exact hdl)
                          rw [hdst]; exact this
                        have hrest : seqH P ops (St W hs) Q rest' R (a'.put op.dst (.bool r)) w' := by
                          have hkk : Keep (dstsOf ops grp ++ [dp]) a (a'.put op.dst (.bool r)) := (hk.mono fun t ht => List.mem_append_left _ ht).trans (hkp.mono fun t ht => List.mem_append_right _ ht)
                          refine ih G rest' _ h' K _ w' R hd hfit st' (by rw [hkk.1]; exact hsz) ?_ ?_
                          · intro g hg
                            obtain ⟨d, h1, h2, h3⟩ := hG g hg
                            refine ⟨d, h1, fun hx => h2 (List.mem_append_right _ (List.mem_cons_of_mem _ hx)), ?_⟩
                            rw [hkk.2 d (fun hx => h2 ?_)]
                            · exact h3
                            · rcases List.mem_append.1 hx with hx | hx
                              · exact List.mem_append_left _ hx
                              · simp at hx; subst hx; exact List.mem_append_right _ (List.mem_cons_self ..)
                          · intro e' h'' a'' w'' hf' st'' hk' hK
                            refine hR e' h'' a'' w'' hf' st'' ((hkk.mono ?_).trans (hk'.mono fun t ht => List.mem_append_right _ (List.mem_cons_of_mem _ ht))) hK
                            intro t ht
                            rcases List.mem_append.1 ht with hx | hx
                            · exact List.mem_append_left _ hx
                            · simp at hx; subst hx; exact List.mem_append_right _ (List.mem_cons_self ..)
                        cases kp with
                        | eff => cases hc4
                        | flt => exact ⟨op, .bool r, hop, .inl ⟨hwp, fun w' _ => hrun w'⟩, hrest⟩
                        | brk =>
                          refine .inr ⟨op, hop, hwp, ?_⟩
                          unfold Oper.wp
                          rw [hrun]
                          exact hrest
                      by_cases hbw : b = want
                      · subst hbw
                        have hd1 := hd.1 rfl
                        refine ih ((j, b) :: G) grp e h _ a w _ hd1 hf st hsz ?_ ?_
                        · intro g hg
                          rcases List.mem_cons.1 hg with rfl | hg
                          · exact ⟨c, hdj, hdn, hab⟩
                          · obtain ⟨d, h1, h2, h3⟩ := hG g hg
                            exact ⟨d, h1, fun hx => h2 (List.mem_append_left _ hx), h3⟩
                        · intro e' h' a' w' hf' st' hk hK
                          split at hK
                          · rename_i r hr
                            exact tail r h' a' w' hk st' (fun _ => hf'.g dx _ hr) (fun x => by cases b <;> simp at x) hK
                          · exact hK.elim
                      · have hbn : b = !want := by cases b <;> cases want <;> simp_all
                        have hd2 := hd.2 hbn
                        have hg1 : grp = (spanGrp ops j want [] ((i, kd) :: rest)).1 := by rw [hspan]
                        rw [hg1]
                        refine skip_sound hdj hbw ((i, kd) :: rest) [] a _ hab (fun s hs => by cases hs) (by rw [← hg1]; exact hdn) (by rw [← hg1]; exact hc3) ?_
                        intro a' hk hdef
                        rw [← hg1] at hk
                        exact tail b h a' w hk st (fun x => absurd x hbw) (fun _ => rfl) hd2
                    · exact hd.elim
              · exact hd.elim

end Go.Sx
