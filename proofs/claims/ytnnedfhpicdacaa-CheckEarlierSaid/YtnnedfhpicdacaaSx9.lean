/-
  SX, part 9: plain rules for reading and writing what is known of memory.
-/
import Derived.Test.YtnnedfhpicdacaaSx8
namespace Go.Sx
open Go

theorem cell_mk (h : PH) (b o : Nat) : h.cell ⟨b, o, none⟩ = (h b).bind fun O => match O with | .cells c _ _ => c[o]? | _ => none := by
  unfold PH.cell
  cases h b with
  | none => rfl
  | some O => cases O <;> rfl
theorem upd_at (h : PH) (b x : Nat) (O : Obj) : (h.upd b O) x = if x = b then some O else h x := rfl

/-- What only looks: nothing is known behind it that was not known. -/
theorem Meets.same {P : Program} {f : FuncId} {args : Array Value} {h : PH} {φ : Value → Prop} (s : Meets P f args h fun v h' => φ v ∧ h.le h') : Meets P f args h fun v h' => φ v ∧ h' = h :=
  fun W w hs => (s W w hs).mono fun _ _ ⟨v, _, he, hs', hq, hl⟩ => ⟨v, h, he, hs'.le hl, hq, rfl⟩
/-- A contract of a look, used. -/
theorem Meets.look {P : Program} {f : FuncId} {args : Array Value} {h : PH} {r : Value} {Q : Value → PH → Prop} (s : Meets P f args h fun v h' => v = r ∧ h' = h) (k : Q r h) : Meets P f args h Q :=
  s.mono fun _ _ ⟨e1, e2⟩ => by subst e1; subst e2; exact k
theorem le_upd2 {g h : PH} {b : Nat} {O : Obj} (l : g.le h) (n : h b = none) : g.le (h.upd b O) := PH.le_upd_of l n
theorem Meets.weaken {P : Program} {f : FuncId} {args : Array Value} {h g : PH} {Q : Value → PH → Prop} (l : g.le h) (s : Meets P f args g Q) : Meets P f args h Q := fun W w hs => s W w (hs.le l)

theorem xSt_mk {n : Nat} {h : PH} {b o : Nat} {vs : List Value} {K : PH → Prop} {c : Array Value} {el : TypeId} (hb : h b = some (.cells c el (0, 0))) (hl : vs.length = n) (hz : n ≠ 0) (ho : ∀ v ∈ vs, oneCell v = true) (hf : o + n ≤ c.size)
    (k : K (h.upd b (.cells (setN c o vs) el (0, 0)))) : xSt n h ⟨b, o, none⟩ vs K := ⟨hl, hz, ho, c, el, hb, rfl, hf, k⟩
theorem upd_le_upd {g h : PH} {b : Nat} {O : Obj} (hb : g b = none) (l : g.le h) : g.le (h.upd b O) := by
  intro x o hx
  have : x ≠ b := fun e => by subst e; rw [hb] at hx; cases hx
  rw [PH.upd_ne _ _ this]; exact l x o hx
theorem ne_of_known {h : PH} {x b : Nat} {O : Obj} (hx : h x = some O) (hb : h b = none) : x ≠ b := fun e => by subst e; rw [hb] at hx; cases hx
theorem xDraw_le {h : PH} {K : PH → Prop} (k : K h) : xDraw h K := ⟨h, PH.le_refl h, k⟩
theorem xDraw_iff (h : PH) (K : PH → Prop) (k : K h) : xDraw h K := ⟨h, PH.le_refl h, k⟩

/-- A frame: of one's own blocks. -/
theorem Ext.upd_new {S : List Nat} {g h : PH} {b : Nat} {O : Obj} (e : Ext S g h) (n : g b = none) : Ext S g (h.upd b O) := by
  intro x o hx hm
  have : x ≠ b := fun e => by subst e; rw [n] at hx; cases hx
  rw [PH.upd_ne _ _ this]; exact e x o hx hm
theorem Ext.upd_in {S : List Nat} {g h : PH} {b : Nat} {O : Obj} (e : Ext S g h) (n : b ∈ S) : Ext S g (h.upd b O) := by
  intro x o hx hm
  have : x ≠ b := fun e => by subst e; exact hm n
  rw [PH.upd_ne _ _ this]; exact e x o hx hm

theorem del_at (h : PH) (b x : Nat) : (h.del b) x = if x = b then none else h x := rfl
theorem PH.del_le (h : PH) (b : Nat) : (h.del b).le h := by
  intro x o hx
  rw [del_at] at hx
  split at hx
  · cases hx
  · exact hx
/-- Drawn without a block that will be turned. -/
theorem xDraw_del {h : PH} (b : Nat) {K : PH → Prop} (k : K (h.del b)) : xDraw h K := ⟨h.del b, PH.del_le h b, k⟩
theorem PH.del_le_upd {g h : PH} {b : Nat} {O : Obj} (l : (g.del b).le h) : (g.del b).le (h.upd b O) := by
  intro x o hx
  have : x ≠ b := fun e => by subst e; simp [del_at] at hx
  rw [PH.upd_ne _ _ this]; exact l x o hx

theorem setN2 (x y a b : Value) : setN #[x, y] 0 [a, b] = #[a, b] := rfl
theorem setN3 (x y z a b c : Value) : setN #[x, y, z] 0 [a, b, c] = #[a, b, c] := rfl
theorem setN5 (x y z u v a b c d e : Value) : setN #[x, y, z, u, v] 0 [a, b, c, d, e] = #[a, b, c, d, e] := rfl
theorem upd_none {h : PH} {b x : Nat} {O : Obj} (n : (h.upd b O) x = none) : b ≠ x ∧ h x = none := by
  rw [upd_at] at n
  split at n
  · cases n
  · rename_i e; exact ⟨fun y => e y.symm, n⟩

/-- Without some blocks. -/
def PH.cut (h : PH) (S : List Nat) : PH := fun x => if x ∈ S then none else h x
theorem PH.cut_le (h : PH) (S : List Nat) : (h.cut S).le h := by
  intro x o hx
  unfold PH.cut at hx
  split at hx
  · cases hx
  · exact hx
theorem PH.cut_at {h : PH} {S : List Nat} {x : Nat} (n : x ∉ S) : (h.cut S) x = h x := by unfold PH.cut; rw [if_neg n]
theorem PH.cut_ext {g h : PH} {S : List Nat} (e : Ext S g h) : (g.cut S).le h := by
  intro x o hx
  unfold PH.cut at hx
  split at hx
  · cases hx
  · rename_i n; exact e x o hx n
theorem xDraw_cut {h : PH} (S : List Nat) {K : PH → Prop} (k : K (h.cut S)) : xDraw h K := ⟨h.cut S, PH.cut_le h S, k⟩

/-- Where ways meet: what is known there. -/
theorem xBlk_split {f : (PH → Prop) → Prop} {K : PH → Prop} (I : PH → Prop) (hK : ∀ h, I h → K h) (hf : ∀ K' : PH → Prop, (∀ h, I h → K' h) → f K') : xBlk f K := hf K hK

/-! ### Step by step -/
theorem nn {a : Addr} {K : Addr → Prop} (k : K a) : xNn (some a) K := ⟨a, rfl, k⟩
section
variable {h : PH} {b o i : Nat} {c : Array Value} {el : TypeId} {fz : Nat × Nat}
theorem cellAdd (hb : h b = some (.cells c el fz)) : h.cell ((⟨b, o, none⟩ : Addr).add i) = c[o + i]? := by rw [add_mk]; exact cellAt hb _
theorem rIa {k : IntKind} {n : Int} {K : Int → Prop} (hb : h b = some (.cells c el fz)) (hc : c[o + i]? = some (.int k n)) (kk : K n) : oI k (h.cell ((⟨b, o, none⟩ : Addr).add i)) K := ⟨n, (cellAdd hb).trans hc, kk⟩
theorem rBa {n : Bool} {K : Bool → Prop} (hb : h b = some (.cells c el fz)) (hc : c[o + i]? = some (.bool n)) (kk : K n) : oB (h.cell ((⟨b, o, none⟩ : Addr).add i)) K := ⟨n, (cellAdd hb).trans hc, kk⟩
theorem rPa {n : Option Addr} {K : Option Addr → Prop} (hb : h b = some (.cells c el fz)) (hc : c[o + i]? = some (.pointer n)) (kk : K n) : oP (h.cell ((⟨b, o, none⟩ : Addr).add i)) K := ⟨n, (cellAdd hb).trans hc, kk⟩
theorem rMa {n : Option Nat} {K : Option Nat → Prop} (hb : h b = some (.cells c el fz)) (hc : c[o + i]? = some (.map n)) (kk : K n) : oM (h.cell ((⟨b, o, none⟩ : Addr).add i)) K := ⟨n, (cellAdd hb).trans hc, kk⟩
theorem rSa {a : Option Addr} {l m : Nat} {K : Option Addr → Nat → Nat → Prop} (hb : h b = some (.cells c el fz)) (hc : c[o + i]? = some (.slice a l m)) (kk : K a l m) : oS (h.cell ((⟨b, o, none⟩ : Addr).add i)) K := ⟨a, l, m, (cellAdd hb).trans hc, kk⟩
end
theorem xIdx_at {b o len : Nat} {i : Int} {size : Nat} {K : Addr → Prop} (h0 : 0 ≤ i) (h1 : i < len) (k : K ⟨b, o + i.toNat * size, none⟩) : xIdx (some ⟨b, o, none⟩) len i size K := ⟨_, rfl, h0, h1, by rw [add_mk]; exact k⟩

end Go.Sx
