/-
  SX, part 17: rows of records, wherever; slices of records of one's own, appended to.
-/
import Derived.Test.YtnnedfhpicdacaaSx11
import Derived.Test.YtnnedfhpicdacaaSx9
set_option linter.unusedVariables false
namespace Go.Sx
open Go

@[simp] theorem add_zero' (a : Addr) : a.add 0 = a := by
  cases a with
  | mk b o s => cases s <;> simp [Addr.add]

section
variable {α : Type} (enc : α → List Value) (w : Nat)
/-- Records in a row, wherever. -/
structure RecsAt (h : PH) (a : Option Addr) (l : List α) : Prop where
  at_ : ∀ (i : Nat) x, l[i]? = some x → ∃ b, a = some b ∧ ∀ (j : Nat) v, (enc x)[j]? = some v → h.cell ((b.add (i * w)).add j) = some v
/-- A slice of records of one's own. -/
def RowIn (el : TypeId) (h : PH) (p : Option Addr) (n c : Nat) (l : List α) (S : List Nat) : Prop :=
  n = l.length ∧ ((l = [] ∧ p = none ∧ c = 0 ∧ S = []) ∨ ∃ b junk, p = some ⟨b, 0, none⟩ ∧ h b = some (.cells (recArr enc l junk) el (0, 0)) ∧ l.length ≤ c ∧ junk.length = (c - l.length) * w ∧ S = [b])
end
variable {α : Type} {enc : α → List Value} {w : Nat}
theorem RecsAt.le {h h' : PH} {a : Option Addr} {l : List α} (x : RecsAt enc w h a l) (le : h.le h') : RecsAt enc w h' a l := by
  refine ⟨fun i e he => ?_⟩
  obtain ⟨b, hb, hc⟩ := x.at_ i e he
  exact ⟨b, hb, fun j v hv => PH.cell_le le (hc j v hv)⟩
theorem RecsAt.take {h : PH} {a : Option Addr} {l : List α} (x : RecsAt enc w h a l) (n : Nat) : RecsAt enc w h a (l.take n) := by
  refine ⟨fun i e he => x.at_ i e ?_⟩
  rw [List.getElem?_take] at he
  split at he
  · exact he
  · cases he
theorem RowIn.nil (el : TypeId) (h : PH) : RowIn enc w el h none 0 0 ([] : List α) [] := ⟨rfl, .inl ⟨rfl, rfl, rfl, rfl⟩⟩
theorem RowIn.of {el : TypeId} {h h' : PH} {p : Option Addr} {n c : Nat} {l : List α} {S : List Nat} (i : RowIn enc w el h p n c l S) (e : ∀ b ∈ S, h' b = h b) : RowIn enc w el h' p n c l S := by
  obtain ⟨rfl, ⟨a, b, c, d⟩ | ⟨b, junk, a, d, e1, f, g⟩⟩ := i
  · exact ⟨rfl, .inl ⟨a, b, c, d⟩⟩
  · exact ⟨rfl, .inr ⟨b, junk, a, (e b (by simp [g])).trans d, e1, f, g⟩⟩
theorem RowIn.known {el : TypeId} {h : PH} {p : Option Addr} {n c : Nat} {l : List α} {S : List Nat} (i : RowIn enc w el h p n c l S) : ∀ b ∈ S, ∃ O, h b = some O := by
  obtain ⟨rfl, ⟨a, b, c, d⟩ | ⟨b, junk, a, d, e1, f, g⟩⟩ := i
  · intro b hb; subst d; cases hb
  · intro x hx; subst g; simp only [List.mem_singleton] at hx; subst hx; exact ⟨_, d⟩
theorem RowIn.le {el : TypeId} {h h' : PH} {p : Option Addr} {n c : Nat} {l : List α} {S : List Nat} (i : RowIn enc w el h p n c l S) (le : h.le h') : RowIn enc w el h' p n c l S :=
  i.of fun b hb => by obtain ⟨O, hO⟩ := i.known b hb; rw [hO]; exact le _ _ hO
theorem RowIn.ext {el : TypeId} {h h' : PH} {p : Option Addr} {n c : Nat} {l : List α} {S T : List Nat} (i : RowIn enc w el h p n c l S) (x : Ext T h h') (d : ∀ b ∈ S, b ∉ T) : RowIn enc w el h' p n c l S :=
  i.of fun b hb => by obtain ⟨O, hO⟩ := i.known b hb; rw [hO]; exact x _ _ hO (d b hb)
theorem RowIn.le_cap {el : TypeId} {h : PH} {p : Option Addr} {n c : Nat} {l : List α} {S : List Nat} (i : RowIn enc w el h p n c l S) : n ≤ c := by
  obtain ⟨rfl, ⟨rfl, b, rfl, d⟩ | ⟨b, junk, a, d, e1, f, g⟩⟩ := i
  · simp
  · exact e1
theorem RowIn.recs {el : TypeId} {h : PH} {p : Option Addr} {n c : Nat} {l : List α} {S : List Nat} (hw : ∀ a, (enc a).length = w) (i : RowIn enc w el h p n c l S) : RecsAt enc w h p l := by
  refine ⟨fun k x hx => ?_⟩
  obtain ⟨rfl, ⟨rfl, b, c, d⟩ | ⟨b, junk, rfl, d, e1, f, g⟩⟩ := i
  · cases hx
  · refine ⟨_, rfl, fun j v hv => ?_⟩
    have hj : j < w := by
      have := (List.getElem?_eq_some_iff.1 hv).1
      rwa [hw] at this
    rw [add_mk, add_mk, cellAt d, Nat.zero_add, rec_get hw x hx j hj]
    exact hv
theorem recArr_snoc (l : List α) (x : α) (junk : List Value) : (l.map enc).flatten ++ enc x ++ junk = ((l ++ [x]).map enc).flatten ++ junk := by simp
/-- One is appended. -/
theorem RowIn.app {el : TypeId} {bytes : Nat} {h : PH} {p : Option Addr} {n c : Nat} {l : List α} {S : List Nat} {sb : Nat} {x : α} {fz : Nat × Nat} {el' : TypeId} {K : Option Addr → Nat → Nat → PH → Prop} (hw : ∀ a, (enc a).length = w) (ho : ∀ v ∈ enc x, oneCell v = true)
    (i : RowIn enc w el h p n c l S) (hs : h sb = some (.cells (enc x).toArray el' fz)) (hl : (2 * (l.length + 1) + 192) * bytes ≤ 2 ^ 48)
    (k : ∀ p' n' c' h' S', RowIn enc w el h' p' n' c' (l ++ [x]) S' → Ext S h h' → (∀ b ∈ S', b ∈ S ∨ h b = none) → K p' n' c' h') : xApp h el w bytes p n c (.slice (some ⟨sb, 0, none⟩) 1 1) K := by
  have src : srcCells h w (.slice (some ⟨sb, 0, none⟩) 1 1) (enc x) 1 := by
    refine ⟨rfl, by rw [hw]; omega, fun i hi => ?_⟩
    rw [add_mk, cellAt hs, Nat.zero_add, List.getElem?_toArray]
  have lf : ∀ (l : List α), ((l.map enc).flatten).length = l.length * w := by
    intro l
    induction l with
    | nil => simp
    | cons a l ih => simp only [List.map_cons, List.flatten_cons, List.length_append, ih, hw, List.length_cons, Nat.add_mul]; omega
  obtain ⟨rfl, ⟨rfl, rfl, rfl, rfl⟩ | ⟨b, junk, rfl, hb, hc, hj, rfl⟩⟩ := i
  · refine ⟨_, 1, src, ho, by simpa using hl, rfl, rfl, fun h => absurd h (by decide), fun _ b cap' junk nb hc hj => ?_⟩
    refine k _ _ _ _ [b] ⟨rfl, .inr ⟨b, junk, rfl, (PH.upd_same _ _ _).trans (by simp [recArr]), hc, by simpa using hj, rfl⟩⟩ ((Ext.refl [] h).upd_new nb) (fun y hy => ?_)
    simp only [List.mem_singleton] at hy
    subst hy; exact .inr nb
  · refine ⟨_, 1, src, ho, hl, (l.map enc).flatten, junk, rfl, hb, lf l, hj, hc, fun b' cap' junk' nb hc' hj' => ?_⟩
    refine k _ _ _ _ [b'] ⟨by simp, .inr ⟨b', junk', rfl, ?_, by simpa using hc', by simpa using hj', rfl⟩⟩ ?_ ?_
    · rw [PH.upd_same, recArr_snoc]; rfl
    · intro y O hy hm
      have h1 : y ≠ b := fun e => hm (by simp [e])
      by_cases e : y = b'
      · subst e
        rw [del_at, if_neg h1] at nb
        rw [nb] at hy; cases hy
      · rw [PH.upd_ne _ _ e, del_at, if_neg h1]; exact hy
    · intro y hy
      simp only [List.mem_singleton] at hy
      subst hy
      rw [del_at] at nb
      split at nb
      · rename_i e; exact .inl (by simp [e])
      · exact .inr nb

theorem setW_all : ∀ (vs pre c : List Value), c.length = vs.length → setW (pre ++ c) pre.length vs = pre ++ vs := by
  intro vs
  induction vs with
  | nil => intro pre c h; simp at h; subst h; rfl
  | cons v vs ih =>
    intro pre c h
    cases c with
    | nil => cases h
    | cons x c =>
      simp only [setW]
      rw [List.set_append_right _ _ (Nat.le_refl _), Nat.sub_self, List.set_cons_zero]
      have := ih (pre ++ [v]) c (by simpa using h)
      simpa [List.length_append] using this
/-- A whole row written anew. -/
theorem setN_all (c : List Value) (vs : List Value) (h : c.length = vs.length) : setN c.toArray 0 vs = vs.toArray := by
  rw [setN_setW]
  congr 1
  exact setW_all vs [] c h
/-- A box that is made and written. -/
theorem xBox {h : PH} {O0 : Array Value} {c : List Value} {el : TypeId} {n : Nat} {vs : List Value} {K : Nat → PH → Prop} (hc : O0 = c.toArray) (hl : c.length = vs.length) (hn : vs.length = n) (hz : n ≠ 0) (ho : ∀ v ∈ vs, oneCell v = true)
    (k : ∀ b h1, h.le h1 → h b = none → h1 b = some (.cells vs.toArray el (0, 0)) → K b h1) : xNew h (.cells O0 el (0, 0)) fun b h1 => xSt n h1 ⟨b, 0, none⟩ vs (K b) := by
  subst hc
  intro b nb
  refine xSt_mk (PH.upd_same _ _ _) hn hz ho (by simp [hl, hn]) ?_
  rw [PH.upd_upd, setN_all _ _ hl]
  exact k b _ (PH.le_upd nb) nb (PH.upd_same _ _ _)

theorem xBlk_split1 {α : Type} {f : (α → PH → Prop) → Prop} {K : α → PH → Prop} (I : α → PH → Prop) (hK : ∀ a h, I a h → K a h) (hf : ∀ K' : α → PH → Prop, (∀ a h, I a h → K' a h) → f K') : xBlk f K := hf K hK
theorem xBlk_split2 {α β : Type} {f : (α → β → PH → Prop) → Prop} {K : α → β → PH → Prop} (I : α → β → PH → Prop) (hK : ∀ a b h, I a b h → K a b h) (hf : ∀ K' : α → β → PH → Prop, (∀ a b h, I a b h → K' a b h) → f K') : xBlk f K := hf K hK
theorem xBlk_split3 {α β γ : Type} {f : (α → β → γ → PH → Prop) → Prop} {K : α → β → γ → PH → Prop} (I : α → β → γ → PH → Prop) (hK : ∀ a b c h, I a b c h → K a b c h) (hf : ∀ K' : α → β → γ → PH → Prop, (∀ a b c h, I a b c h → K' a b c h) → f K') : xBlk f K := hf K hK

end Go.Sx
