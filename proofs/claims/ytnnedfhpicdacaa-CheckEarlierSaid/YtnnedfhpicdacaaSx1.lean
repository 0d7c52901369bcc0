/-
  SX, part 1: a symbolic, world-free reading of the operations: partial heaps, what an operation's 'Sem' asks of one, and that this is sound.
-/
import Derived.Orders
import Derived.OrdersHeld
import Derived.LoopN
import Derived.KernelRfl
import Derived.Laws.Sem
import Derived.Laws.World
namespace Go.Sx
open Go

/-- What is known of memory: some blocks, each with all that it holds. -/
abbrev PH := Nat → Option Obj
def PH.upd (h : PH) (b : Nat) (O : Obj) : PH := fun x => if x = b then some O else h x
def PH.del (h : PH) (b : Nat) : PH := fun x => if x = b then none else h x
def PH.cell (h : PH) (a : Addr) : Option Value :=
  match h a.block with
  | some (.cells c _ _) => if a.spot.isSome then none else c[a.off]?
  | _ => none
def PH.le (h h' : PH) : Prop := ∀ b O, h b = some O → h' b = some O

theorem PH.le_refl (h : PH) : h.le h := fun _ _ x => x
theorem PH.le_trans {a b c : PH} (x : a.le b) (y : b.le c) : a.le c := fun _ _ z => y _ _ (x _ _ z)
theorem PH.le_upd {h : PH} {b : Nat} {O : Obj} (hb : h b = none) : h.le (h.upd b O) := by
  intro x o hx
  unfold PH.upd
  split
  · rename_i e; subst e; rw [hb] at hx; cases hx
  · exact hx
theorem PH.le_upd_of {h g : PH} {b : Nat} {O : Obj} (hl : g.le h) (hb : h b = none) : g.le (h.upd b O) := PH.le_trans hl (PH.le_upd hb)
@[simp] theorem PH.upd_same (h : PH) (b : Nat) (O : Obj) : (h.upd b O) b = some O := by simp [PH.upd]
theorem PH.upd_ne (h : PH) {b x : Nat} (O : Obj) (e : x ≠ b) : (h.upd b O) x = h x := by simp [PH.upd, e]
theorem PH.cell_le {h h' : PH} (hl : h.le h') {a : Addr} {v : Value} (hc : h.cell a = some v) : h'.cell a = some v := by
  unfold PH.cell at *
  cases hb : h a.block with
  | none => simp [hb] at hc
  | some O => rw [hl _ _ hb]; rw [hb] at hc; exact hc

/-- The streams and the tape are as they were. -/
structure Quiet (w w' : World) : Prop where
  os : w'.os = w.os
  tape : w'.tape = w.tape
  output : w'.output = w.output
theorem Quiet.refl (w : World) : Quiet w w := ⟨rfl, rfl, rfl⟩
theorem Quiet.trans {a b c : World} (x : Quiet a b) (y : Quiet b c) : Quiet a c := ⟨y.os.trans x.os, y.tape.trans x.tape, y.output.trans x.output⟩

/-- The world 'w', reached from 'W', has at least what 'h' says. -/
structure St (W : World) (h : PH) (w : World) : Prop where
  q : Quiet W w
  sh : ∀ b O, h b = some O → w.heap[b]? = some O

theorem St.le {W : World} {h h' : PH} {w : World} (s : St W h' w) (l : h.le h') : St W h w := ⟨s.q, fun b O hb => s.sh b O (l b O hb)⟩
theorem St.cell {W : World} {h : PH} {w : World} (s : St W h w) {a : Addr} {v : Value} (hc : h.cell a = some v) : w.cell? a = some v := by
  unfold PH.cell at hc
  unfold World.cell?
  cases hb : h a.block with
  | none => simp [hb] at hc
  | some O => rw [s.sh _ _ hb]; rw [hb] at hc; exact hc
theorem St.fresh {W : World} {h : PH} {w : World} (s : St W h w) : h w.heap.size = none := by
  cases hb : h w.heap.size with
  | none => rfl
  | some O => have := s.sh _ _ hb; simp at this
theorem St.drawn {W : World} {h : PH} {w : World} (s : St W h w) (n : Nat) : St W h { w with drawn := n } := ⟨⟨s.q.os, s.q.tape, s.q.output⟩, s.sh⟩
theorem St.push {W : World} {h : PH} {w : World} (s : St W h w) (o : Obj) : St W (h.upd w.heap.size o) { w with heap := w.heap.push o } := by
  refine ⟨⟨s.q.os, s.q.tape, s.q.output⟩, fun b O hb => ?_⟩
  show (w.heap.push o)[b]? = some O
  unfold PH.upd at hb
  split at hb
  · rename_i e; subst e; simp at hb; subst hb; simp
  · have := s.sh b O hb
    have hlt : b < w.heap.size := (Array.getElem?_eq_some_iff.1 this).1
    rw [Array.getElem?_push, if_neg (by omega)]; exact this
theorem St.setObj {W : World} {h : PH} {w : World} (s : St W h w) (r : Nat) (o : Obj) (hr : r < w.heap.size) : St W (h.upd r o) { w with heap := w.heap.setIfInBounds r o } := by
  refine ⟨⟨s.q.os, s.q.tape, s.q.output⟩, fun b O hb => ?_⟩
  show (w.heap.setIfInBounds r o)[b]? = some O
  unfold PH.upd at hb
  split at hb
  · rename_i e; subst e; simp at hb; subst hb; simp [hr]
  · rename_i e; rw [Array.getElem?_setIfInBounds_ne (fun x => e x.symm)]; exact s.sh b O hb
theorem St.setCell {W : World} {h : PH} {w : World} (s : St W h w) {a : Addr} {c : Array Value} {el : TypeId} {fz : Nat × Nat} (hb : h a.block = some (.cells c el fz)) (hs : a.spot = none) (v : Value) :
    St W (h.upd a.block (.cells (c.setIfInBounds a.off v) el fz)) (w.setCell a v) := by
  have hw := s.sh _ _ hb
  refine ⟨⟨s.q.os, s.q.tape, s.q.output⟩, fun b O hO => ?_⟩
  show (w.heap.modify a.block _)[b]? = some O
  unfold PH.upd at hO
  rw [Array.getElem?_modify]
  split at hO
  · rename_i e; subst e; simp at hO; subst hO; simp [hw, hs]
  · rename_i e; rw [if_neg (fun x => e x.symm)]; exact s.sh b O hO

/-- One cell's value. -/
def oneCell : Value → Bool
  | .agg _ | .tuple _ => false
  | _ => true

def Obj.isCells : Obj → Bool
  | .cells .. => true
  | _ => false

/-- WHAT AN OPERATION ASKS OF MEMORY, AND WHAT IS KNOWN BEHIND IT: whatever a draw answers. -/
def dSem (P : Program) {α : Type} : Sem α → PH → (α → PH → Prop) → Prop
  | .pure a, h, K => K a h
  | .load _ a k, h, K => ∃ v, h.cell a = some v ∧ dSem P (k v) h K
  | .store _ a v k, h, K => oneCell v = true ∧ ∃ c el, h a.block = some (.cells c el (0, 0)) ∧ a.spot = none ∧ a.off < c.size ∧ dSem P k (h.upd a.block (.cells (c.setIfInBounds a.off v) el (0, 0))) K
  | .new o k, h, K => ∀ b, h b = none → dSem P (k b) (h.upd b o) K
  | .shape r k, h, K => ∃ c el fz, h r = some (.cells c el fz) ∧ dSem P (k (some (el, c.size))) h K
  | .freeze _ _ _, _, _ => False
  | .frozen a k, h, K => ∃ c el, h a.block = some (.cells c el (0, 0)) ∧ dSem P (k false) h K
  | .getObj r k, h, K => ∃ O, h r = some O ∧ Obj.isCells O = false ∧ dSem P (k O) h K
  | .setObj r o k, h, K => ∃ O, h r = some O ∧ Obj.isCells O = false ∧ dSem P k (h.upd r o) K
  | .choose q k, h, K => ∀ n, (q.forced = true → n = 0) → (q.forced = false → ∃ t, n = q.cut t) → dSem P (k n) h K
  | .sys _ _, _, _ => False
  | .program k, h, K => dSem P (k P) h K
  | .mark _ k, h, K => dSem P k h K
  | .halt _, _, _ => False

theorem dSem_sound (P : Program) {W : World} {α : Type} (s : Sem α) : ∀ (h : PH) (K : α → PH → Prop) (w : World), dSem P s h K → St W h w → ∃ a w' h', s.run P w = .ok a w' ∧ St W h' w' ∧ K a h' := by
  induction s with
  | pure a => exact fun h K w hd hs => ⟨a, w, h, rfl, hs, hd⟩
  | load m a k ih =>
    intro h K w hd hs
    obtain ⟨v, hv, hd⟩ := hd
    obtain ⟨x, w', h', hr, r⟩ := ih v h K w hd hs
    exact ⟨x, w', h', by simp only [Sem.run, hs.cell hv]; exact hr, r⟩
  | store m a v k ih =>
    intro h K w hd hs
    obtain ⟨ho, c, el, hb, hsp, hlt, hd⟩ := hd
    have hw := hs.sh _ _ hb
    obtain ⟨x, w', h', hr, r⟩ := ih _ K _ hd (hs.setCell hb hsp v)
    refine ⟨x, w', h', ?_, r⟩
    have hcell : w.cell? a = some c[a.off] := by unfold World.cell?; simp [hw, hsp, hlt]
    have hfz : w.frozen? a = false := by unfold World.frozen?; simp [hw]
    cases v <;> simp only [oneCell, Bool.false_eq_true] at ho <;> simp only [Sem.run, hcell, hfz, Bool.false_eq_true, if_false] <;> exact hr
  | new o k ih =>
    intro h K w hd hs
    obtain ⟨x, w', h', hr, r⟩ := ih _ _ K _ (hd w.heap.size hs.fresh) (hs.push o)
    exact ⟨x, w', h', hr, r⟩
  | shape r k ih =>
    intro h K w hd hs
    obtain ⟨c, el, fz, hb, hd⟩ := hd
    obtain ⟨x, w', h', hr, r'⟩ := ih _ h K w hd hs
    exact ⟨x, w', h', by simp only [Sem.run, World.shape?, hs.sh _ _ hb]; exact hr, r'⟩
  | freeze a n k ih => intro h K w hd; exact hd.elim
  | frozen a k ih =>
    intro h K w hd hs
    obtain ⟨c, el, hb, hd⟩ := hd
    obtain ⟨x, w', h', hr, r'⟩ := ih _ h K w hd hs
    refine ⟨x, w', h', ?_, r'⟩
    have hfz : w.frozen? a = false := by unfold World.frozen?; simp [hs.sh _ _ hb]
    simp only [Sem.run, hfz]; exact hr
  | getObj r k ih =>
    intro h K w hd hs
    obtain ⟨O, hb, hc, hd⟩ := hd
    obtain ⟨x, w', h', hr, r'⟩ := ih _ h K w hd hs
    refine ⟨x, w', h', ?_, r'⟩
    simp only [Sem.run, hs.sh _ _ hb]
    cases O <;> simp only [Obj.isCells, Bool.true_eq_false] at hc <;> exact hr
  | setObj r o k ih =>
    intro h K w hd hs
    obtain ⟨O, hb, hc, hd⟩ := hd
    have hw := hs.sh _ _ hb
    have hlt : r < w.heap.size := (Array.getElem?_eq_some_iff.1 hw).1
    obtain ⟨x, w', h', hr, r'⟩ := ih _ K _ hd (hs.setObj r o hlt)
    refine ⟨x, w', h', ?_, r'⟩
    simp only [Sem.run, hw]
    cases O <;> simp only [Obj.isCells, Bool.true_eq_false] at hc <;> exact hr
  | choose q k ih =>
    intro h K w hd hs
    by_cases hq : q.forced = true
    · obtain ⟨x, w', h', hr, r⟩ := ih 0 h K w (hd 0 (fun _ => rfl) (fun e => by rw [hq] at e; cases e)) hs
      exact ⟨x, w', h', by simp only [Sem.run, hq, if_true]; exact hr, r⟩
    · obtain ⟨x, w', h', hr, r⟩ := ih _ h K _ (hd (q.cut (w.tape w.drawn q)) (fun e => absurd e hq) (fun _ => ⟨_, rfl⟩)) (hs.drawn (w.drawn + 1))
      exact ⟨x, w', h', by simp only [Sem.run, hq]; exact hr, r⟩
  | sys c k ih => intro h K w hd; exact hd.elim
  | program k ih => exact fun h K w hd hs => ih P h K w hd hs
  | mark m k ih =>
    intro h K w hd hs
    obtain ⟨x, w', h', hr, r⟩ := ih h K w hd hs
    exact ⟨x, w', h', by simp only [Sem.run]; exact hr, r⟩
  | halt x => intro h K w hd; exact hd.elim

theorem dSem_bind (P : Program) {α β : Type} (s : Sem α) (f : α → Sem β) : ∀ (h : PH) (K : β → PH → Prop), dSem P s h (fun a h' => dSem P (f a) h' K) → dSem P (s >>= f) h K := by
  show ∀ (h : PH) (K : β → PH → Prop), dSem P s h (fun a h' => dSem P (f a) h' K) → dSem P (s.bind f) h K
  induction s with
  | pure a => exact fun h K hd => hd
  | load m a k ih => exact fun h K ⟨v, hv, hd⟩ => ⟨v, hv, ih v _ _ hd⟩
  | store m a v k ih => exact fun h K ⟨ho, c, el, hb, hsp, hlt, hd⟩ => ⟨ho, c, el, hb, hsp, hlt, ih _ _ hd⟩
  | new o k ih => exact fun h K hd b hb => ih b _ _ (hd b hb)
  | shape r k ih => exact fun h K ⟨c, el, fz, hb, hd⟩ => ⟨c, el, fz, hb, ih _ _ _ hd⟩
  | freeze a n k ih => exact fun h K hd => hd.elim
  | frozen a k ih => exact fun h K ⟨c, el, hb, hd⟩ => ⟨c, el, hb, ih _ _ _ hd⟩
  | getObj r k ih => exact fun h K ⟨O, hb, hc, hd⟩ => ⟨O, hb, hc, ih _ _ _ hd⟩
  | setObj r o k ih => exact fun h K ⟨O, hb, hc, hd⟩ => ⟨O, hb, hc, ih _ _ hd⟩
  | choose q k ih => exact fun h K hd n h1 h2 => ih n _ _ (hd n h1 h2)
  | sys c k ih => exact fun h K hd => hd.elim
  | program k ih => exact fun h K hd => ih P _ _ hd
  | mark m k ih => exact fun h K hd => ih _ _ hd
  | halt x => exact fun h K hd => hd.elim

theorem dSem_mono (P : Program) {α : Type} (s : Sem α) : ∀ (h : PH) (K K' : α → PH → Prop), dSem P s h K → (∀ a h', K a h' → K' a h') → dSem P s h K' := by
  induction s with
  | pure a => exact fun h K K' hd m => m _ _ hd
  | load m a k ih => exact fun h K K' ⟨v, hv, hd⟩ m => ⟨v, hv, ih v _ _ _ hd m⟩
  | store m a v k ih => exact fun h K K' ⟨ho, c, el, hb, hsp, hlt, hd⟩ m => ⟨ho, c, el, hb, hsp, hlt, ih _ _ _ hd m⟩
  | new o k ih => exact fun h K K' hd m b hb => ih b _ _ _ (hd b hb) m
  | shape r k ih => exact fun h K K' ⟨c, el, fz, hb, hd⟩ m => ⟨c, el, fz, hb, ih _ _ _ _ hd m⟩
  | freeze a n k ih => exact fun h K K' hd => hd.elim
  | frozen a k ih => exact fun h K K' ⟨c, el, hb, hd⟩ m => ⟨c, el, hb, ih _ _ _ _ hd m⟩
  | getObj r k ih => exact fun h K K' ⟨O, hb, hc, hd⟩ m => ⟨O, hb, hc, ih _ _ _ _ hd m⟩
  | setObj r o k ih => exact fun h K K' ⟨O, hb, hc, hd⟩ m => ⟨O, hb, hc, ih _ _ _ hd m⟩
  | choose q k ih => exact fun h K K' hd m n h1 h2 => ih n _ _ _ (hd n h1 h2) m
  | sys c k ih => exact fun h K K' hd => hd.elim
  | program k ih => exact fun h K K' hd m => ih P _ _ _ hd m
  | mark m k ih => exact fun h K K' hd m => ih _ _ _ hd m
  | halt x => exact fun h K K' hd => hd.elim

/-- What a 'Sem' comes to that looks at the program's tables alone. -/
def val? (P : Program) {α : Type} : Sem α → Option α
  | .pure a => some a
  | .program k => val? P (k P)
  | _ => none

theorem val?_run (P : Program) {α : Type} (s : Sem α) : ∀ (a : α), val? P s = some a → ∀ w, s.run P w = .ok a w := by
  induction s with
  | pure a => intro b h w; simp only [val?, Option.some.injEq] at h; subst h; rfl
  | program k ih => intro b h w; exact ih P b h w
  | _ => intro b h; simp [val?] at h

/-! ### Contracts -/

/-- The function returns, wherever memory has at least what 'h' says: 'Q' of what it returns and of what is known of memory behind it. -/
def Meets (P : Program) (f : FuncId) (args : Array Value) (h : PH) (Q : Value → PH → Prop) : Prop :=
  ∀ W w, St W h w → Calls P f args w fun e w' => ∃ v h', e = .returned v ∧ St W h' w' ∧ Q v h'

theorem Meets.mono {P : Program} {f : FuncId} {args : Array Value} {h : PH} {Q Q' : Value → PH → Prop} (s : Meets P f args h Q) (m : ∀ v h', Q v h' → Q' v h') : Meets P f args h Q' :=
  fun W w hs => (s W w hs).mono fun _ _ ⟨v, h', he, hs', hq⟩ => ⟨v, h', he, hs', m _ _ hq⟩

end Go.Sx
