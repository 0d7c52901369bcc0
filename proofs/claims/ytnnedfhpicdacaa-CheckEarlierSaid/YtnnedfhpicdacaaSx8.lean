/-
  SX, part 8: the words that printed readings use, and what is plain about them.
-/
import Derived.Test.YtnnedfhpicdacaaSx7
namespace Go.Sx
open Go

def xNew (h : PH) (o : Obj) (K : Nat → PH → Prop) : Prop := ∀ b, h b = none → K b (h.upd b o)
def xDraw (h : PH) (K : PH → Prop) : Prop := ∃ hs : PH, hs.le h ∧ K hs
def oTup (v : Value) (n : Nat) (K : Array Value → Prop) : Prop := ∃ cs : Array Value, v = .tuple cs ∧ cs.size = n ∧ K cs
def oIx (c : Option Value) (K : Value → Prop) : Prop := ∃ w, c = some w ∧ K w
def oAgg (v : Value) (n : Nat) (K : Array Value → Prop) : Prop := ∃ cs : Array Value, v = .agg cs ∧ cs.size = n ∧ K cs

theorem xDraw_self {h : PH} {K : PH → Prop} (k : K h) : xDraw h K := ⟨h, PH.le_refl h, k⟩
@[simp] theorem oTup_mk (cs : Array Value) (n : Nat) (K : Array Value → Prop) : oTup (.tuple cs) n K ↔ cs.size = n ∧ K cs := ⟨fun ⟨c, e, hn, k⟩ => by simp at e; subst e; exact ⟨hn, k⟩, fun ⟨hn, k⟩ => ⟨cs, rfl, hn, k⟩⟩
@[simp] theorem oAgg_mk (cs : Array Value) (n : Nat) (K : Array Value → Prop) : oAgg (.agg cs) n K ↔ cs.size = n ∧ K cs := ⟨fun ⟨c, e, hn, k⟩ => by simp at e; subst e; exact ⟨hn, k⟩, fun ⟨hn, k⟩ => ⟨cs, rfl, hn, k⟩⟩
@[simp] theorem oIx_some (v : Value) (K : Value → Prop) : oIx (some v) K ↔ K v := ⟨fun ⟨c, e, k⟩ => by simp at e; subst e; exact k, fun k => ⟨v, rfl, k⟩⟩
@[simp] theorem xNn_some (a : Addr) (K : Addr → Prop) : xNn (some a) K ↔ K a := ⟨fun ⟨b, e, k⟩ => by simp at e; subst e; exact k, fun k => ⟨a, rfl, k⟩⟩
/-! ### Reading what is known -/
@[simp] theorem add_mk (b o n : Nat) : (⟨b, o, none⟩ : Addr).add n = ⟨b, o + n, none⟩ := by
  unfold Addr.add; split
  · rename_i e; subst e; rfl
  · rfl
theorem cellAt {h : PH} {b : Nat} {c : Array Value} {el : TypeId} {fz : Nat × Nat} (hb : h b = some (.cells c el fz)) (o : Nat) : h.cell ⟨b, o, none⟩ = c[o]? := by
  unfold PH.cell; rw [hb]; rfl
@[simp] theorem xIdx_some (a : Addr) (len : Nat) (i : Int) (size : Nat) (K : Addr → Prop) : xIdx (some a) len i size K ↔ 0 ≤ i ∧ i < len ∧ K (a.add (i.toNat * size)) :=
  ⟨fun ⟨b, e, h0, h1, k⟩ => by simp at e; subst e; exact ⟨h0, h1, k⟩, fun ⟨h0, h1, k⟩ => ⟨a, rfl, h0, h1, k⟩⟩

/-- Some blocks may have turned; all others that were known are as they were. -/
def Ext (S : List Nat) (h h' : PH) : Prop := ∀ b O, h b = some O → b ∉ S → h' b = some O
theorem Ext.refl (S : List Nat) (h : PH) : Ext S h h := fun _ _ x _ => x
theorem Ext.of_le {S : List Nat} {h h' : PH} (l : h.le h') : Ext S h h' := fun b O x _ => l b O x
theorem Ext.le {h h' : PH} (e : Ext [] h h') : h.le h' := fun b O x => e b O x (by simp)
theorem Ext.trans {S T : List Nat} {a b c : PH} (x : Ext S a b) (y : Ext T b c) : Ext (S ++ T) a c :=
  fun n O h hn => y n O (x n O h fun hm => hn (List.mem_append_left _ hm)) fun hm => hn (List.mem_append_right _ hm)
theorem Ext.trans' {S : List Nat} {a b c : PH} (x : Ext S a b) (y : Ext S b c) : Ext S a c := fun n O h hn => y n O (x n O h hn) hn
theorem Ext.mono {S T : List Nat} {a b : PH} (x : Ext S a b) (h : ∀ n, n ∈ S → n ∈ T) : Ext T a b := fun n O hn hm => x n O hn fun hs => hm (h n hs)

theorem xNew_intro {h : PH} {o : Obj} {K : Nat → PH → Prop} (k : ∀ b h1, h.le h1 → h b = none → h1 b = some o → K b h1) : xNew h o K :=
  fun b hb => k b _ (PH.le_upd hb) hb (by simp)

/-- A store into a block of one's own: 'g' is what was known at first, and does not know it. -/
theorem xSt_own {g h : PH} {n b o : Nat} {vs : List Value} {K : PH → Prop} {c : Array Value} {el : TypeId} (hg : g.le h) (hn : g b = none) (hb : h b = some (.cells c el (0, 0))) (hl : vs.length = n) (hz : n ≠ 0) (ho : ∀ v ∈ vs, oneCell v = true) (hf : o + n ≤ c.size)
    (k : ∀ h1, g.le h1 → h1 b = some (.cells (setN c o vs) el (0, 0)) → (∀ x, x ≠ b → h1 x = h x) → K h1) : xSt n h ⟨b, o, none⟩ vs K := by
  refine ⟨hl, hz, ho, c, el, hb, rfl, hf, k _ ?_ (by simp) (fun x hx => PH.upd_ne _ _ hx)⟩
  intro x O hx
  have : x ≠ b := fun e => by subst e; rw [hn] at hx; cases hx
  show (h.upd b _) x = _
  rw [PH.upd_ne _ _ this]; exact hg x O hx

/-- A store into a block that was known. -/
theorem xSt_at {h : PH} {n b o : Nat} {vs : List Value} {K : PH → Prop} {c : Array Value} {el : TypeId} (hb : h b = some (.cells c el (0, 0))) (hl : vs.length = n) (hz : n ≠ 0) (ho : ∀ v ∈ vs, oneCell v = true) (hf : o + n ≤ c.size)
    (k : ∀ h1, h1 b = some (.cells (setN c o vs) el (0, 0)) → (∀ x, x ≠ b → h1 x = h x) → K h1) : xSt n h ⟨b, o, none⟩ vs K :=
  ⟨hl, hz, ho, c, el, hb, rfl, hf, k _ (by simp) (fun x hx => PH.upd_ne _ _ hx)⟩

/-! ### 'a && b', 'a || b' -/
theorem xSc_and {b : Bool} {grp : (Bool → PH → Prop) → Prop} {K : Bool → PH → Prop} {h : PH} (x : Bool) (hg : b = true → ∀ J : Bool → PH → Prop, J x h → grp J) (k : K (b && x) h) : xSc b true grp K h := by
  refine ⟨fun hb => hg hb K (by subst hb; exact k), fun hb => ?_⟩
  simp at hb; subst hb; exact k
theorem xSc_or {b : Bool} {grp : (Bool → PH → Prop) → Prop} {K : Bool → PH → Prop} {h : PH} (x : Bool) (hg : b = false → ∀ J : Bool → PH → Prop, J x h → grp J) (k : K (b || x) h) : xSc b false grp K h := by
  refine ⟨fun hb => hg hb K (by subst hb; exact k), fun hb => ?_⟩
  simp at hb; subst hb; exact k
/-- .. where the second one may make memory. -/
theorem xSc_and_le {b : Bool} {grp : (Bool → PH → Prop) → Prop} {K : Bool → PH → Prop} {h : PH} (x : Bool) (hg : b = true → ∀ J : Bool → PH → Prop, (∀ h', h.le h' → J x h') → grp J) (k : ∀ h', h.le h' → K (b && x) h') : xSc b true grp K h := by
  refine ⟨fun hb => hg hb K (fun h' l => by subst hb; exact k h' l), fun hb => ?_⟩
  simp at hb; subst hb; exact k h (PH.le_refl h)
theorem xSc_or_le {b : Bool} {grp : (Bool → PH → Prop) → Prop} {K : Bool → PH → Prop} {h : PH} (x : Bool) (hg : b = false → ∀ J : Bool → PH → Prop, (∀ h', h.le h' → J x h') → grp J) (k : ∀ h', h.le h' → K (b || x) h') : xSc b false grp K h := by
  refine ⟨fun hb => hg hb K (fun h' l => by subst hb; exact k h' l), fun hb => ?_⟩
  simp at hb; subst hb; exact k h (PH.le_refl h)

theorem xIte_t {T : Type} {b : Bool} {thn els : T → Prop} {K : T} (hb : b = true) (k : thn K) : xIte b thn els K := ⟨fun _ => k, fun h => by rw [hb] at h; cases h⟩
theorem xIte_f {T : Type} {b : Bool} {thn els : T → Prop} {K : T} (hb : b = false) (k : els K) : xIte b thn els K := ⟨fun h => (by rw [hb] at h; cases h), fun _ => k⟩

/-! ### Loops: an invariant, and what goes down -/
theorem xLoop0 {B : (PH → Prop) → PH → Prop} (I : PH → Prop) (μ : PH → Nat) (step : ∀ (J : PH → Prop) h, I h → (∀ h', I h' → μ h' < μ h → J h') → B J h) {h : PH} (h0 : I h) : ∃ n, xLoopN (fun _ => False) B n h := by
  have key : ∀ n h, I h → μ h < n → xLoopN (fun _ => False) B n h := by
    intro n
    induction n with
    | zero => intro h _ hl; omega
    | succ n ih => exact fun h hi hl => step _ h hi fun h' hi' hl' => ih h' hi' (by omega)
  exact ⟨μ h + 1, key _ h h0 (by omega)⟩
theorem xLoop1 {α : Type} {B : (α → PH → Prop) → α → PH → Prop} (I : α → PH → Prop) (μ : α → PH → Nat) (step : ∀ (J : α → PH → Prop) x h, I x h → (∀ x' h', I x' h' → μ x' h' < μ x h → J x' h') → B J x h) {x : α} {h : PH} (h0 : I x h) :
    ∃ n, xLoopN (fun _ _ => False) B n x h := by
  have key : ∀ n x h, I x h → μ x h < n → xLoopN (fun _ _ => False) B n x h := by
    intro n
    induction n with
    | zero => intro x h _ hl; omega
    | succ n ih => exact fun x h hi hl => step _ x h hi fun x' h' hi' hl' => ih x' h' hi' (by omega)
  exact ⟨μ x h + 1, key _ x h h0 (by omega)⟩
theorem xLoop2 {α β : Type} {B : (α → β → PH → Prop) → α → β → PH → Prop} (I : α → β → PH → Prop) (μ : α → β → PH → Nat)
    (step : ∀ (J : α → β → PH → Prop) x y h, I x y h → (∀ x' y' h', I x' y' h' → μ x' y' h' < μ x y h → J x' y' h') → B J x y h) {x : α} {y : β} {h : PH} (h0 : I x y h) : ∃ n, xLoopN (fun _ _ _ => False) B n x y h := by
  have key : ∀ n x y h, I x y h → μ x y h < n → xLoopN (fun _ _ _ => False) B n x y h := by
    intro n
    induction n with
    | zero => intro x y h _ hl; omega
    | succ n ih => exact fun x y h hi hl => step _ x y h hi fun x' y' h' hi' hl' => ih x' y' h' hi' (by omega)
  exact ⟨μ x y h + 1, key _ x y h h0 (by omega)⟩
theorem xLoop3 {α β γ : Type} {B : (α → β → γ → PH → Prop) → α → β → γ → PH → Prop} (I : α → β → γ → PH → Prop) (μ : α → β → γ → PH → Nat)
    (step : ∀ (J : α → β → γ → PH → Prop) x y z h, I x y z h → (∀ x' y' z' h', I x' y' z' h' → μ x' y' z' h' < μ x y z h → J x' y' z' h') → B J x y z h) {x : α} {y : β} {z : γ} {h : PH} (h0 : I x y z h) : ∃ n, xLoopN (fun _ _ _ _ => False) B n x y z h := by
  have key : ∀ n x y z h, I x y z h → μ x y z h < n → xLoopN (fun _ _ _ _ => False) B n x y z h := by
    intro n
    induction n with
    | zero => intro x y z h _ hl; omega
    | succ n ih => exact fun x y z h hi hl => step _ x y z h hi fun x' y' z' h' hi' hl' => ih x' y' z' h' hi' (by omega)
  exact ⟨μ x y z h + 1, key _ x y z h h0 (by omega)⟩
theorem xLoop4 {α β γ δ : Type} {B : (α → β → γ → δ → PH → Prop) → α → β → γ → δ → PH → Prop} (I : α → β → γ → δ → PH → Prop) (μ : α → β → γ → δ → PH → Nat)
    (step : ∀ (J : α → β → γ → δ → PH → Prop) x y z u h, I x y z u h → (∀ x' y' z' u' h', I x' y' z' u' h' → μ x' y' z' u' h' < μ x y z u h → J x' y' z' u' h') → B J x y z u h) {x : α} {y : β} {z : γ} {u : δ} {h : PH} (h0 : I x y z u h) :
    ∃ n, xLoopN (fun _ _ _ _ _ => False) B n x y z u h := by
  have key : ∀ n x y z u h, I x y z u h → μ x y z u h < n → xLoopN (fun _ _ _ _ _ => False) B n x y z u h := by
    intro n
    induction n with
    | zero => intro x y z u h _ hl; omega
    | succ n ih => exact fun x y z u h hi hl => step _ x y z u h hi fun x' y' z' u' h' hi' hl' => ih x' y' z' u' h' hi' (by omega)
  exact ⟨μ x y z u h + 1, key _ x y z u h h0 (by omega)⟩

/-- A call. -/
theorem call {P : Program} {f : FuncId} {args : Array Value} {h : PH} {Q Q' : Value → PH → Prop} (s : Meets P f args h Q') (k : ∀ v h', Q' v h' → Q v h') : Meets P f args h Q := s.mono k

theorem wrap_id {n : Int} (h0 : -9223372036854775808 ≤ n) (h1 : n < 9223372036854775808) : IntKind.wrap .i64 n = n := wrap64_id h0 h1

end Go.Sx
