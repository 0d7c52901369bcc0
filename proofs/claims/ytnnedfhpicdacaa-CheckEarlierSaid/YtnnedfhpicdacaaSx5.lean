/-
  SX, part 5: regions, in the text's order and in any order.
-/
import Derived.Test.YtnnedfhpicdacaaSx4
namespace Go.Sx
open Go

/-- How an operation of a region is taken: one that only reads, of cells that nobody turns; one that acts; one that acts when all others that read have been taken. -/
inductive Kd where
  | flt | eff | brk

abbrev Items := List (Nat × Kd)
def dstsOf (ops : Array Oper) (l : Items) : List Nat := l.filterMap fun p => (ops[p.1]?).bind (·.dst)

/-- Slots but those of 'D', and what is deferred, are as they were. -/
structure Keep (D : List Nat) (a a' : Act) : Prop where
  s : a'.tmps.size = a.tmps.size
  g : ∀ t, t ∉ D → a'.tmps[t]? = a.tmps[t]?
  d : a'.defers = a.defers
theorem Keep.refl (D : List Nat) (a : Act) : Keep D a a := ⟨rfl, fun _ _ => rfl, rfl⟩
theorem Keep.trans {D : List Nat} {a b c : Act} (x : Keep D a b) (y : Keep D b c) : Keep D a c := ⟨y.1.trans x.1, fun t ht => (y.2 t ht).trans (x.2 t ht), y.3.trans x.3⟩
theorem Keep.mono {D D' : List Nat} {a b : Act} (x : Keep D a b) (h : ∀ t, t ∈ D → t ∈ D') : Keep D' a b := ⟨x.1, fun t ht => x.2 t fun hm => ht (h t hm), x.3⟩
theorem Keep.put (D : List Nat) (a : Act) (d : Option Nat) (v : Value) (h : ∀ t, d = some t → t ∈ D) : Keep D a (a.put d v) := by
  cases d with
  | none => exact Keep.refl _ _
  | some t =>
    refine ⟨by simp [Act.put], fun s hs => ?_, rfl⟩
    have : t ≠ s := fun e => hs (e ▸ h t rfl)
    simp only [Act.put]
    rw [Array.getElem?_setIfInBounds_ne this]
theorem Fits.drop {e : Env} {a a' : Act} {D : List Nat} (f : Fits e a) (k : Keep D a a') : Fits (e.drop D) a' :=
  ⟨fun t v h => by obtain ⟨h1, h2⟩ := Env.get_drop h; rw [k.2 t h1]; exact f.g t v h2⟩

/-! ### One after the other -/
def seqH (P : Program) (ops : Array Oper) (S : World → Prop) (Q : Exit → Act → World → Prop) : Items → (Act → World → Prop) → Act → World → Prop
  | [], R, a, w => R a w
  | (i, .flt) :: is, R, a, w => ∃ o v, ops[i]? = some o ∧ YieldsIf P ops S o v a ∧ seqH P ops S Q is R (a.put o.dst v) w
  | (i, .eff) :: is, R, a, w => (∃ o, ops[i]? = some o ∧ Region.wanted o (yielded ops a.tmps) = false ∧ seqH P ops S Q is R (a.put o.dst undef) w) ∨
      ∃ o, ops[i]? = some o ∧ Region.wanted o (yielded ops a.tmps) = true ∧ o.wp P a w (fun a' w' => S w' ∧ seqH P ops S Q is R a' w') Q
  | (i, .brk) :: is, R, a, w => (∃ o, ops[i]? = some o ∧ Region.wanted o (yielded ops a.tmps) = false ∧ seqH P ops S Q is R (a.put o.dst undef) w) ∨
      ∃ o, ops[i]? = some o ∧ Region.wanted o (yielded ops a.tmps) = true ∧ o.wp P a w (fun a' w' => seqH P ops S Q is R a' w') Q

theorem seqH_append (P : Program) (ops : Array Oper) (S : World → Prop) (Q : Exit → Act → World → Prop) (R : Act → World → Prop) : ∀ (l m : Items), seqH P ops S Q (l ++ m) R = seqH P ops S Q l (seqH P ops S Q m R)
  | [], m => by funext a w; rfl
  | (i, kd) :: l, m => by
    have ih := seqH_append P ops S Q R l m
    funext a w
    cases kd <;> simp only [List.cons_append, seqH, ih]

/-- In the order of the text. -/
theorem seqH_text {P : Program} {ops : Array Oper} {S : World → Prop} {Q : Exit → Act → World → Prop} : ∀ (l : List Nat) (a : Act) (w : World), seqH P ops S Q (l.map fun i => (i, Kd.brk)) (fun a w => Q .normal a w) a w → wpOps P ops Q l a w
  | [], _, _, h => h
  | i :: l, a, w, h => by
    rw [wpOps_cons]
    rcases h with ⟨o, ho, hw, h⟩ | ⟨o, ho, hw, h⟩
    · unfold wpOp; rw [ho]; simp only [hw, Bool.false_eq_true, if_false]
      exact seqH_text l _ _ h
    · unfold wpOp; rw [ho]; simp only [hw, if_true]
      exact .inl (Oper.wp_mono (fun a' w' h' => seqH_text l a' w' h') h)

/-! ### In any order -/
def wpAnyB (P : Program) (ops : Array Oper) (Q : Exit → Act → World → Prop) (S : World → Prop) (B : Nat → Bool) : Nat → Array Bool → Act → World → Prop
  | 0, listed, a, w => Region.ready .any ops listed = [] ∧ Q .normal a w
  | fuel + 1, listed, a, w =>
    (Region.ready .any ops listed = [] → Q .normal a w) ∧
    ∀ i ∈ Region.ready .any ops listed, wpOp P ops Q i (fun a' w' => (B i = true ∨ S w') ∧ wpAnyB P ops Q S B fuel (listed.setIfInBounds i true) a' w') a w

section
variable {P : Program} {ops : Array Oper} {Q : Exit → Act → World → Prop} {S : World → Prop} {B : Nat → Bool}

theorem wpAny_of_B : ∀ (fuel : Nat) (listed : Array Bool) (a : Act) (w : World), wpAnyB P ops Q S B fuel listed a w → wpAny P .any ops Q fuel listed a w
  | 0, _, _, _, h => h
  | fuel + 1, _, _, _, h => ⟨h.1, fun i hi => wpOp_mono (fun a' w' h' => wpAny_of_B fuel _ a' w' h'.2) (h.2 i hi)⟩

theorem wpAnyB_first {i : Nat} {oi : Oper} {v : Value} (hi : ops[i]? = some oi) (hsel : ∀ (j : Nat) (o : Oper) cs b, ops[j]? = some o → o.op ≠ .select cs b)
    (hQ : ∀ c a w, Q (.panic c) (a.put oi.dst v) w → Q (.panic c) a w) :
    ∀ (fuel : Nat) (listed : Array Bool) (a : Act) (w : World),
      (∀ j oj, ops[j]? = some oj → j ≠ i → listed.getD j true = false → (∀ e ∈ oj.after, Region.binds .any e = true → e.on ≠ i) → oi.apart ops oj = true) →
      (∀ j oj, ops[j]? = some oj → j ≠ i → listed.getD j true = false → B j = true → ∃ e ∈ oj.after, Region.binds .any e = true ∧ e.on = i) →
      i ∈ Region.ready .any ops listed → YieldsIf P ops S oi v a → S w →
      wpAnyB P ops Q S B fuel (listed.setIfInBounds i true) (a.put oi.dst v) w → wpAnyB P ops Q S B (fuel + 1) listed a w := by
  intro fuel
  induction fuel with
  | zero =>
    intro listed a w _ _ hr hy hS H
    refine ⟨fun h => (by rw [h] at hr; cases hr), fun j hj => ?_⟩
    by_cases hji : j = i
    · subst hji; exact hy.wpOp hi hS ⟨.inr hS, H⟩
    · have := ready_mono hj hji
      rw [H.1] at this
      cases this
  | succ fuel ih =>
    intro listed a w hfree hB hr hy hS H
    refine ⟨fun h => (by rw [h] at hr; cases hr), fun j hj => ?_⟩
    by_cases hji : j = i
    · subst hji; exact hy.wpOp hi hS ⟨.inr hS, H⟩
    · have h1 := H.2 j (ready_mono hj hji)
      obtain ⟨hjun, oj, hoj, hall⟩ := mem_ready.1 hj
      have hnot : ∀ e ∈ oj.after, Region.binds .any e = true → e.on ≠ i := fun e he hb heq => by
        have h1 := hall e he hb
        have h0 := (mem_ready.1 hr).1
        rw [heq] at h1
        rcases Nat.lt_or_ge i listed.size with h' | h'
        · simp [h'] at h0 h1; rw [h0] at h1; cases h1
        · simp [Array.getElem?_eq_none h'] at h1
      have hBj : B j = false := by
        cases hb : B j with
        | false => rfl
        | true =>
          obtain ⟨e, he, hbd, hon⟩ := hB j oj hoj hji hjun hb
          exact absurd hon (hnot e he hbd)
      have h2 := wpOp_putIf hoj (hfree j oj hoj hji hjun hnot) (fun cs b => hsel i oi cs b hi) (fun cs b => hsel j oj cs b hoj) hQ hy h1
      have hun : ∀ {k : Nat}, (listed.setIfInBounds j true).getD k true = false → listed.getD k true = false := fun {k} hun => by
        by_cases hjk : j = k
        · subst hjk; exact hjun
        · rw [getD_set_ne true hjk] at hun; exact hun
      refine wpOp_mono (fun a' w' h3 => ?_) h2
      have hS' : S w' := h3.2.1.resolve_left (by rw [hBj]; simp)
      refine ⟨.inr hS', ih (listed.setIfInBounds j true) a' w' (fun k ok hk hki hu hno => hfree k ok hk hki (hun hu) hno) (fun k ok hk hki hu hb => hB k ok hk hki (hun hu) hb) (ready_mono hr (Ne.symm hji)) h3.1 hS' ?_⟩
      rw [Array.setIfInBounds_comm _ _ hji]
      exact h3.2.2

/-- Every operation that acts last waits for number 'i'. -/
def brkWait (ops : Array Oper) (ord : Items) (i : Nat) : Bool := ord.all fun p => match p.2 with
  | .brk => Nat.beq p.1 i || match ops[p.1]? with
    | some o => o.after.any fun e => Region.binds .any e && Nat.beq e.on i
    | none => true
  | _ => true
def noFlt (l : Items) : Bool := l.all fun p => match p.2 with | .brk => true | _ => false
/-- The order 'ord' may be taken for all. -/
def okOrd (ops : Array Oper) (all : Items) : Items → Array Bool → Bool
  | [], listed => (Region.ready .any ops listed).isEmpty
  | (i, .flt) :: r, listed => (Region.ready .any ops listed).contains i && Region.free .any ops listed i && brkWait ops all i && okOrd ops all r (listed.setIfInBounds i true)
  | (i, .eff) :: r, listed => (Region.ready .any ops listed == [i]) && okOrd ops all r (listed.setIfInBounds i true)
  | (i, .brk) :: r, listed => (Region.ready .any ops listed == [i]) && noFlt r && okOrd ops all r (listed.setIfInBounds i true)

def isBrk (all : Items) (i : Nat) : Bool := all.any fun p => Nat.beq p.1 i && match p.2 with | .brk => true | _ => false

theorem brkWait_spec {all : Items} {i j : Nat} {oj : Oper} (h : brkWait ops all i = true) (hj : ops[j]? = some oj) (hji : j ≠ i) (hb : isBrk all j = true) : ∃ e ∈ oj.after, Region.binds .any e = true ∧ e.on = i := by
  unfold isBrk at hb
  obtain ⟨p, hp, hpb⟩ := List.any_eq_true.1 hb
  simp only [Bool.and_eq_true] at hpb
  have hpj : p.1 = j := Nat.eq_of_beq_eq_true hpb.1
  have := List.all_eq_true.1 h p hp
  obtain ⟨p1, p2⟩ := p
  cases p2 <;> simp only [Bool.false_eq_true, and_false] at hpb
  simp only [] at hpj
  subst hpj
  simp only [hj, Bool.or_eq_true] at this
  rcases this with h | h
  · exact absurd (Nat.eq_of_beq_eq_true h) hji
  · obtain ⟨e, he, hc⟩ := Array.any_eq_true'.1 h
    simp only [Bool.and_eq_true] at hc
    exact ⟨e, he, hc.1, Nat.eq_of_beq_eq_true hc.2⟩

theorem ord_sound (hs : Region.noSelect ops = true) (hQ : ∀ c a w, ¬ Q (.panic c) a w) {all : Items} : ∀ (l : Items) (listed : Array Bool) (a : Act) (w : World), (∀ p ∈ l, p ∈ all) → (S w ∨ noFlt l = true) → okOrd ops all l listed = true →
    seqH P ops S Q l (fun a w => Q .normal a w) a w → wpAnyB P ops Q S (isBrk all) l.length listed a w
  | [], listed, a, w, _, _, hok, h => ⟨by simpa [okOrd] using hok, h⟩
  | (i, .flt) :: r, listed, a, w, hall, hS, hok, h => by
    obtain ⟨o, v, ho, hy, h⟩ := h
    simp only [okOrd, Bool.and_eq_true] at hok
    obtain ⟨⟨⟨hr, hf⟩, hbw⟩, hok⟩ := hok
    have hSw : S w := hS.resolve_right (by simp [noFlt])
    refine wpAnyB_first ho (Region.noSelect_spec hs) (fun c a w hp => absurd hp (hQ c _ w)) r.length listed a w (Region.free_spec ho hf) (fun j oj hj hji _ hb => brkWait_spec hbw hj hji hb) (by simpa using hr) hy hSw ?_
    exact ord_sound hs hQ r _ _ _ (fun p hp => hall p (List.mem_cons_of_mem _ hp)) (.inl hSw) hok h
  | (i, .eff) :: r, listed, a, w, hall, hS, hok, h => by
    simp only [okOrd, Bool.and_eq_true, beq_iff_eq] at hok
    obtain ⟨hr, hok⟩ := hok
    have hSw : S w := hS.resolve_right (by simp [noFlt])
    refine ⟨fun h0 => (by rw [h0] at hr; cases hr), fun j hj => ?_⟩
    rw [hr] at hj
    simp only [List.mem_singleton] at hj
    subst hj
    have hall' := fun p hp => hall p (List.mem_cons_of_mem _ hp)
    rcases h with ⟨o, ho, hw, h⟩ | ⟨o, ho, hw, h⟩
    · unfold wpOp; rw [ho]; simp only [hw, Bool.false_eq_true, if_false]
      exact ⟨.inr hSw, ord_sound hs hQ r _ _ _ hall' (.inl hSw) hok h⟩
    · unfold wpOp; rw [ho]; simp only [hw, if_true]
      exact .inl (Oper.wp_mono (fun a' w' h' => ⟨.inr h'.1, ord_sound hs hQ r _ _ _ hall' (.inl h'.1) hok h'.2⟩) h)
  | (i, .brk) :: r, listed, a, w, hall, hS, hok, h => by
    simp only [okOrd, Bool.and_eq_true, beq_iff_eq] at hok
    obtain ⟨⟨hr, hnf⟩, hok⟩ := hok
    refine ⟨fun h0 => (by rw [h0] at hr; cases hr), fun j hj => ?_⟩
    rw [hr] at hj
    simp only [List.mem_singleton] at hj
    subst hj
    have hB : isBrk all j = true := List.any_eq_true.2 ⟨(j, .brk), hall _ (List.mem_cons_self ..), by simp⟩
    have hall' := fun p hp => hall p (List.mem_cons_of_mem _ hp)
    rcases h with ⟨o, ho, hw, h⟩ | ⟨o, ho, hw, h⟩
    · unfold wpOp; rw [ho]; simp only [hw, Bool.false_eq_true, if_false]
      exact ⟨.inl hB, ord_sound hs hQ r _ _ _ hall' (.inr hnf) hok h⟩
    · unfold wpOp; rw [ho]; simp only [hw, if_true]
      exact .inl (Oper.wp_mono (fun a' w' h' => ⟨.inl hB, ord_sound hs hQ r _ _ _ hall' (.inr hnf) hok h'⟩) h)

/-- A region that draws its order. -/
theorem region_any {id : Nat} {a : Act} {w : World} (hm : P.follows .mixedOrders = true) (hs : Region.noSelect ops = true) (hQ : ∀ c a w, ¬ Q (.panic c) a w) {ord : Items} (hlen : ord.length = ops.size)
    (hok : okOrd ops ord ord (Array.replicate ops.size false) = true) (hS : S { w with drawn := w.drawn + 1 }) (h : seqH P ops S Q ord (fun a w => Q .normal a w) a { w with drawn := w.drawn + 1 }) : (Code.region id ops true).wp P Q a w := by
  refine wp_region_any hm (wpAny_of_B _ _ _ _ (S := S) (B := isBrk ord) ?_)
  rw [← hlen]
  exact ord_sound hs hQ ord _ _ _ (fun p hp => hp) (.inl hS) (by rw [hlen]; exact hok) h
end

end Go.Sx
