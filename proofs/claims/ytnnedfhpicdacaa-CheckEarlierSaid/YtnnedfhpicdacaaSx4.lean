/-
  SX, part 4: the operations that write, make memory, or call.
-/
import Derived.Test.YtnnedfhpicdacaaSx3
namespace Go.Sx
open Go

/-- What a 'Sem' comes to, in every world that has what 'h' says. -/
def Does (P : Program) {α : Type} (s : Sem α) (h : PH) (K : α → PH → Prop) : Prop := ∀ W w, St W h w → ∃ a w' h', s.run P w = .ok a w' ∧ St W h' w' ∧ K a h'

theorem Does.of_dSem {P : Program} {α : Type} {s : Sem α} {h : PH} {K : α → PH → Prop} (d : dSem P s h K) : Does P s h K := fun _ w st => dSem_sound P s h K w d st
theorem Does.pure {P : Program} {α : Type} {h : PH} {K : α → PH → Prop} {a : α} (k : K a h) : Does P (pure a) h K := fun _ w st => ⟨a, w, h, rfl, st, k⟩
theorem Does.mono {P : Program} {α : Type} {s : Sem α} {h : PH} {K K' : α → PH → Prop} (d : Does P s h K) (m : ∀ a h', K a h' → K' a h') : Does P s h K' :=
  fun W w st => let ⟨a, w', h', hr, st', k⟩ := d W w st; ⟨a, w', h', hr, st', m _ _ k⟩
theorem Does.bind {P : Program} {α β : Type} {s : Sem α} {f : α → Sem β} {h : PH} {K : β → PH → Prop} (d : Does P s h fun a h' => Does P (f a) h' K) : Does P (s >>= f) h K := by
  intro W w st
  obtain ⟨a, w', h', hr, st', k⟩ := d W w st
  obtain ⟨b, w'', h'', hr', st'', k'⟩ := k W w' st'
  exact ⟨b, w'', h'', by rw [Sem.run_bind, hr]; exact hr', st'', k'⟩
theorem Does.read {P : Program} {α β : Type} {s : Sem α} {f : α → Sem β} {h : PH} {K : β → PH → Prop} {v : α} (r : Reads P s h v) (d : Does P (f v) h K) : Does P (s >>= f) h K :=
  Does.bind fun W w st => ⟨v, w, h, r W w st, st, d⟩
theorem Does.weaken {P : Program} {α : Type} {s : Sem α} {h h' : PH} {K : α → PH → Prop} (l : h'.le h) (d : Does P s h' K) : Does P s h K := fun W w st => d W w (st.le l)
theorem Does.new {P : Program} {α : Type} {f : Nat → Sem α} {h : PH} {K : α → PH → Prop} {o : Obj} (d : ∀ b, h b = none → Does P (f b) (h.upd b o) K) : Does P (newObj o >>= f) h K :=
  Does.bind fun _ w st => ⟨w.heap.size, _, _, rfl, st.push o, d _ st.fresh⟩

def setN (c : Array Value) (off : Nat) : List Value → Array Value
  | [] => c
  | v :: vs => setN (c.setIfInBounds off v) (off + 1) vs
@[simp] theorem setN_size (c : Array Value) : ∀ (vs : List Value) (off : Nat), (setN c off vs).size = c.size := by
  intro vs
  induction vs generalizing c with
  | nil => intro off; rfl
  | cons v vs ih => intro off; simp [setN, ih]

theorem PH.upd_upd (h : PH) (b : Nat) (x y : Obj) : (h.upd b x).upd b y = h.upd b y := by
  funext z; simp only [PH.upd]; split <;> rfl
theorem PH.upd_id {h : PH} {b : Nat} {x : Obj} (hb : h b = some x) : h.upd b x = h := by
  funext z; simp only [PH.upd]; split
  · rename_i e; subst e; exact hb.symm
  · rfl

theorem add_off {a : Addr} (i : Nat) (hs : a.spot = none) : (a.add i).block = a.block ∧ (a.add i).off = a.off + i ∧ (a.add i).spot = none := by
  unfold Addr.add
  split
  · rename_i e; subst e; exact ⟨rfl, by omega, hs⟩
  · exact ⟨rfl, rfl, rfl⟩

theorem dSem_storeCells {P : Program} {a : Addr} {el : TypeId} {K : Unit → PH → Prop} (hs : a.spot = none) : ∀ (vs : List Value) (i : Nat) (h : PH) (c : Array Value), h a.block = some (.cells c el (0, 0)) → (∀ v ∈ vs, oneCell v = true) →
    a.off + i + vs.length ≤ c.size → K () (h.upd a.block (.cells (setN c (a.off + i) vs) el (0, 0))) → dSem P (storeCells a vs i) h K
  | [], i, h, c, hb, _, _, hK => by
    simp only [setN] at hK
    rw [PH.upd_id hb] at hK
    exact hK
  | v :: vs, i, h, c, hb, ho, hl, hK => by
    obtain ⟨e1, e2, e3⟩ := add_off (a := a) i hs
    simp only [List.length_cons] at hl
    refine dSem_bind P _ _ _ _ ?_
    refine ⟨ho v (List.mem_cons_self ..), c, el, by rw [e1]; exact hb, e3, by rw [e2]; omega, ?_⟩
    show dSem P (storeCells a vs (i + 1)) _ K
    rw [e1, e2]
    refine dSem_storeCells (el := el) hs vs (i + 1) _ (c.setIfInBounds (a.off + i) v) (by simp) (fun u hu => ho u (List.mem_cons_of_mem _ hu)) (by simp; omega) ?_
    rw [PH.upd_upd]
    exact hK

/-- A store of so many cells. -/
def xSt (n : Nat) (h : PH) (a : Addr) (vs : List Value) (K : PH → Prop) : Prop :=
  vs.length = n ∧ n ≠ 0 ∧ (∀ v ∈ vs, oneCell v = true) ∧ ∃ c el, h a.block = some (.cells c el (0, 0)) ∧ a.spot = none ∧ a.off + n ≤ c.size ∧ K (h.upd a.block (.cells (setN c a.off vs) el (0, 0)))

/-- The cells of what is appended. -/
def srcCells (h : PH) (z : Nat) : Value → List Value → Nat → Prop
  | .slice none n _, xs, m => n = 0 ∧ m = 0 ∧ xs = []
  | .slice (some b) n _, xs, m => m = n ∧ xs.length = n * z ∧ ∀ i, i < n * z → h.cell (b.add i) = xs[i]?
  | .string s, xs, m => m = s.size ∧ z = 1 ∧ xs = s.data.toList.map fun b => .int .u8 b.toNat
  | _, _, _ => False

/-- append to a slice of one's own (it begins where its block does, and nobody else looks at what is behind its length): a slice of its own again. -/
def xApp (h : PH) (el : TypeId) (z bytes : Nat) (base : Option Addr) (len cap : Nat) (src : Value) (K : Option Addr → Nat → Nat → PH → Prop) : Prop :=
  ∃ xs n, srcCells h z src xs n ∧ (∀ v ∈ xs, oneCell v = true) ∧ (2 * (len + n) + 192) * bytes ≤ 2 ^ 48 ∧
  match base with
  | none => len = 0 ∧ cap = 0 ∧ (n = 0 → K none 0 0 h) ∧ (n ≠ 0 → ∀ b cap' junk, h b = none → n ≤ cap' → List.length junk = (cap' - n) * z → K (some ⟨b, 0, none⟩) n cap' (h.upd b (.cells (xs ++ junk).toArray el (0, 0))))
  | some a => ∃ old rest, a = ⟨a.block, 0, none⟩ ∧ h a.block = some (.cells (old ++ rest).toArray el (0, 0)) ∧ List.length old = len * z ∧ List.length rest = (cap - len) * z ∧ len ≤ cap ∧
      ∀ b cap' junk, (h.del a.block) b = none → len + n ≤ cap' → List.length junk = (cap' - (len + n)) * z → K (some ⟨b, 0, none⟩) (len + n) cap' ((h.del a.block).upd b (.cells (old ++ xs ++ junk).toArray el (0, 0)))

/-- make([]T, len, cap) -/
def xMake (h : PH) (el : TypeId) (z : Array Value) (bytes : Nat) (len cap : Int) (K : Option Addr → Nat → Nat → PH → Prop) : Prop :=
  0 ≤ len ∧ len ≤ cap ∧ cap < 9223372036854775808 ∧ bytes * cap ≤ 2 ^ 48 ∧ ∀ b, h b = none → K (some ⟨b, 0, none⟩) len.toNat cap.toNat (h.upd b (.cells (List.replicate cap.toNat z.toList).flatten.toArray el (0, 0)))

def mapPut (es : Array MapEntry) (cl : Nat) (k v : Value) : Obj :=
  match findE es.toList k 0 with
  | some (i, _) => .map (es.modify i fun e => { e with key := k, val := v }) cl
  | none => .map (es.push { key := k, val := v, born := cl }) (cl + 1)
def xPut (P : Program) (key : TypeId) (h : PH) (m : Option Nat) (k v : Value) (K : PH → Prop) : Prop :=
  ∃ r es cl Sh, m = some r ∧ h r = some (.map es cl) ∧ KeyLaw P key Sh ∧ Sh k ∧ (∀ e ∈ es.toList, Sh (MapEntry.key e)) ∧ K (h.upd r (mapPut es cl k v))
def mapDel (es : Array MapEntry) (cl : Nat) (k : Value) : Obj :=
  match findE es.toList k 0 with
  | some (i, _) => .map (es.eraseIdxIfInBounds i) cl
  | none => .map es cl
def xDel (P : Program) (key : TypeId) (h : PH) (m : Option Nat) (k : Value) (K : PH → Prop) : Prop :=
  ∃ r es cl Sh, m = some r ∧ h r = some (.map es cl) ∧ KeyLaw P key Sh ∧ Sh k ∧ (∀ e ∈ es.toList, Sh (MapEntry.key e)) ∧ K (h.upd r (mapDel es cl k))
/-- The beginning of a range over a map. -/
def xRange (h : PH) (m : Option Nat) (K : Nat → PH → Prop) : Prop := ∃ r es cl, m = some r ∧ h r = some (.map es cl) ∧ ∀ b, h b = none → K b (h.upd b (.mapIter (some r) cl #[] cl))
/-- The next entry, whichever. -/
def xNext (h : PH) (r : Nat) (over : PH → Prop) (K : Value → Value → PH → Prop) : Prop :=
  ∃ m since seen last es cl, h r = some (.mapIter (some m) since seen last) ∧ h m = some (.map es cl) ∧ (seen.isEmpty = false → es.isEmpty = false → es.all (fun e => decide (e.born ≥ last)) = false) ∧
    ((∀ e ∈ es, e.born < since → seen.contains e.born = true) → over h) ∧ ∀ e ∈ es, seen.contains e.born = false → K e.key e.val (h.upd r (.mapIter (some m) since (seen.push e.born) cl))

theorem reads_getObj {P : Program} {h : PH} {r : Nat} {O : Obj} (hr : h r = some O) (hc : Obj.isCells O = false) : Reads P (getObj r) h O := fun W w st => by
  show Sem.run P (.getObj r .pure) w = _
  simp only [Sem.run, st.sh _ _ hr]
  cases O <;> simp only [Obj.isCells, Bool.true_eq_false] at hc <;> rfl

theorem does_setObj {P : Program} {h : PH} {r : Nat} {O O' : Obj} {K : Unit → PH → Prop} (hr : h r = some O) (hc : Obj.isCells O = false) (k : K () (h.upd r O')) : Does P (setObj r O') h K :=
  Does.of_dSem (s := setObj r O') ⟨O, hr, hc, k⟩

theorem findE_lt {k : Value} : ∀ {es : List MapEntry} {i j : Nat} {v : Value}, findE es k i = some (j, v) → i ≤ j ∧ ∃ e, es[j - i]? = some e ∧ Instr.sameBits 10000 k e.key = true ∧ e.val = v
  | [], i, j, v, h => by simp [findE] at h
  | e :: es, i, j, v, h => by
    unfold findE at h
    split at h
    · rename_i hs
      simp at h; obtain ⟨rfl, rfl⟩ := h
      exact ⟨Nat.le_refl _, e, by simp, hs, rfl⟩
    · obtain ⟨h1, e', h2, h3⟩ := findE_lt h
      refine ⟨by omega, e', ?_, h3⟩
      rw [show j - i = (j - (i + 1)) + 1 from by omega]; simpa using h2

theorem does_mapUpdate {P : Program} {t key el : TypeId} {h : PH} {m : Option Nat} {k v : Value} {K : PH → Prop} (ht : P.underlying t = some (.map key el)) (x : xPut P key h m k v K) :
    Does P (Instr.mapUpdate t (.map m) k v) h fun _ h' => K h' := by
  obtain ⟨r, es, cl, Sh, rfl, hr, law, hS, hE, hK⟩ := x
  unfold Instr.mapUpdate
  refine Does.read (reads_underlying ht) ?_
  refine Does.read (reads_getObj hr rfl) ?_
  refine Does.read (v := ()) (fun W w _ => law.check _ hS _ w) ?_
  refine Does.read (v := findE es.toList k 0) (fun W w _ => law.find _ _ hS hE w) ?_
  unfold mapPut at hK
  cases hf : findE es.toList k 0 with
  | none =>
    rw [hf] at hK
    exact does_setObj hr rfl hK
  | some p =>
    obtain ⟨i, u⟩ := p
    rw [hf] at hK
    simp only []
    obtain ⟨_, e, he, hs, _⟩ := findE_lt hf
    have he' : es[i]? = some e := by simpa using he
    refine Does.read (v := k) ?_ (does_setObj hr rfl hK)
    rw [he']
    have hs' : Instr.sameBits 10000 e.key k = true := by
      rw [law.symm _ _ (hE e (by rw [Array.mem_toList_iff]; exact Array.mem_of_getElem? he')) hS]; exact hs
    unfold Instr.keyThatStays
    simp only [Option.map_some, Option.getD_some, hs', if_true]
    exact Reads.pure _

theorem does_delete {P : Program} {t key el : TypeId} {h : PH} {m : Option Nat} {k : Value} {K : PH → Prop} {ty : TypeId} {ts : Array TypeId} (hts : ts[0]? = some t) (ht : P.underlying t = some (.map key el)) (x : xDel P key h m k K) :
    Does P (Builtin.delete_ ts ty #[.map m, k]) h fun v h' => v = .tuple #[] ∧ K h' := by
  obtain ⟨r, es, cl, Sh, rfl, hr, law, hS, hE, hK⟩ := x
  unfold Builtin.delete_
  rw [hts]
  simp only [List.getElem?_toArray, List.getElem?_cons_zero, List.getElem?_cons_succ]
  refine Does.read (reads_underlying ht) ?_
  refine Does.read (reads_getObj hr rfl) ?_
  refine Does.read (v := ()) (fun W w _ => law.check _ hS _ w) ?_
  refine Does.read (v := findE es.toList k 0) (fun W w _ => law.find _ _ hS hE w) ?_
  unfold mapDel at hK
  cases hf : findE es.toList k 0 with
  | none =>
    rw [hf] at hK
    exact Does.bind (does_setObj hr rfl (Does.pure ⟨rfl, hK⟩))
  | some p =>
    obtain ⟨i, u⟩ := p
    rw [hf] at hK
    exact Does.bind (does_setObj hr rfl (Does.pure ⟨rfl, hK⟩))

theorem does_choose {P : Program} {q : Question} {h : PH} {K : Nat → PH → Prop} (k : ∀ n, (q.forced = true → n = 0) → (q.forced = false → ∃ t, n = q.cut t) → K n h) : Does P (choose q) h K :=
  Does.of_dSem (s := choose q) k

theorem does_next {P : Program} {h : PH} {r : Nat} {over : PH → Prop} {K : Value → Value → PH → Prop} {sp : Option Nat} {ty : TypeId} (x : xNext h r over K) :
    Does P (Instr.next (.pointer (some ⟨r, 0, sp⟩)) false ty) h fun v h' => (v = .tuple #[.bool false] ∧ over h') ∨ ∃ k u, v = .tuple #[.bool true, k, u] ∧ K k u h' := by
  obtain ⟨m, since, seen, last, es, cl, hr, hm, hcond, hover, hgo⟩ := x
  unfold Instr.next
  simp only []
  refine Does.read (reads_getObj hr rfl) ?_
  simp only []
  refine Does.read (reads_getObj hm rfl) ?_
  simp only []
  have hif : (!seen.isEmpty && !es.isEmpty && es.all (fun e => decide (e.born ≥ last))) = false := by
    cases h1 : seen.isEmpty with
    | true => simp
    | false =>
      cases h2 : es.isEmpty with
      | true => simp
      | false => have := hcond h1 h2; simp only [Bool.not_false, Bool.true_and]; exact this
  rw [if_neg (by rw [hif]; simp)]
  generalize hl : (es.filter fun e => !seen.contains e.born) = left
  generalize ho : (left.filter fun e => decide (e.born < since)) = old
  generalize hn : (left.filter fun e => decide (e.born ≥ since)) = new
  generalize hc : (if old.isEmpty then #[none] else #[]) ++ (old ++ new).map some = cand
  refine Does.bind (does_choose fun n h0 h1 => ?_)
  have hpos : 0 < cand.size := by
    subst hc
    by_cases hoe : old.isEmpty = true
    · simp [hoe]; omega
    · have : 0 < old.size := by
        rcases Nat.eq_zero_or_pos old.size with h | h
        · exact absurd (by simpa [Array.isEmpty] using h) hoe
        · exact h
      simp [hoe]; omega
  have hlt : n < cand.size := by
    cases hq : (Question.mapNext cand.size).forced with
    | true => rw [h0 hq]; exact hpos
    | false => obtain ⟨t, rfl⟩ := h1 hq; exact Nat.mod_lt _ hpos
  rw [Array.getElem?_eq_getElem hlt]
  have hmem : cand[n] ∈ cand := Array.getElem_mem hlt
  generalize cand[n] = x at hmem
  cases x with
  | none =>
    simp only []
    refine Does.pure (.inl ⟨rfl, hover fun e he hb => ?_⟩)
    have hoe : old.isEmpty = true := by
      subst hc
      cases h : old.isEmpty with
      | true => rfl
      | false => simp [h] at hmem
    cases hs : seen.contains e.born with
    | true => rfl
    | false =>
      exfalso
      have : e ∈ old := by
        subst ho; subst hl
        simp [he, hb]
        simpa using hs
      have he : old = #[] := by simpa using hoe
      rw [he] at this; simp at this
  | some e =>
    simp only []
    have he : e ∈ left := by
      subst hc
      have : e ∈ old ∨ e ∈ new := by
        by_cases h : old.isEmpty = true
        · simp [h] at hmem; exact hmem
        · simp [h] at hmem; exact hmem
      rcases this with h | h
      · subst ho; simp at h; exact h.1
      · subst hn; simp at h; exact h.1
    subst hl
    simp at he
    refine Does.bind (does_setObj hr rfl (Does.pure (.inr ⟨_, _, rfl, hgo e he.1 (by simpa using he.2)⟩)))

theorem reads_typeInfo {P : Program} {h : PH} {t : TypeId} {i : TypeInfo} (hi : P.info? t = some i) : Reads P (typeInfo t) h i := by
  apply Reads.of_val?
  show val? P (match P.info? t with | some i => Pure.pure i | none => stuck "no such type") = _
  rw [hi]; rfl
theorem reads_zero {P : Program} {h : PH} {t : TypeId} {i : TypeInfo} {z : Value} (hi : P.info? t = some i) (hz : i.zero = some z) : Reads P (zeroValue t) h z := by
  refine (reads_typeInfo hi).bind ?_
  rw [hz]; exact Reads.pure _

theorem growBy_le (n : Nat) : ∀ (r c : Nat), c ≤ n → Builtin.growBy n r c ≤ 2 * n + 192
  | 0, c, h => by simp [Builtin.growBy]; omega
  | r + 1, c, h => by
    unfold Builtin.growBy
    split
    · omega
    · by_cases hc : c + (c + 768) / 4 ≤ n
      · exact growBy_le n r _ hc
      · have : Builtin.growBy n r (c + (c + 768) / 4) = c + (c + 768) / 4 := by
          cases r with
          | zero => rfl
          | succ r => unfold Builtin.growBy; rw [if_pos (by omega)]
        omega
theorem nextslicecap_le {n c : Nat} (h : c < n) : Builtin.nextslicecap n c ≤ 2 * n + 192 := by
  unfold Builtin.nextslicecap
  split
  · omega
  · split
    · omega
    · exact growBy_le n 4 c (by omega)

theorem reads_first {P : Program} {h : PH} {z : Nat} {v : Value} {xs : List Value} {n : Nat} (x : srcCells h z v xs n) : Reads P (Builtin.firstCells z n v) h xs.toArray := by
  unfold srcCells at x
  split at x
  · obtain ⟨rfl, rfl, rfl⟩ := x; exact Reads.pure _
  · obtain ⟨rfl, hl, hc⟩ := x
    show Reads P (loadCells _ _) h _
    rw [← hl]
    exact reads_cells (fun j hj => hc j (by omega))
  · obtain ⟨rfl, rfl, rfl⟩ := x
    rename_i s
    have : (List.map (fun b : UInt8 => Value.int .u8 b.toNat) s.data.toList).toArray = ((s.extract 0 s.size).data.map fun b => .int .u8 b.toNat) := by
      apply Array.ext'
      simp
    rw [this]
    exact Reads.pure _
  · exact x.elim
theorem reads_lenOf {P : Program} {h : PH} {z : Nat} {v : Value} {xs : List Value} {n : Nat} (x : srcCells h z v xs n) : Reads P (Builtin.lenOf v) h n := by
  unfold srcCells at x
  split at x
  · obtain ⟨rfl, rfl, rfl⟩ := x; exact Reads.pure _
  · obtain ⟨rfl, hl, hc⟩ := x; exact Reads.pure _
  · obtain ⟨rfl, rfl, rfl⟩ := x; exact Reads.pure _
  · exact x.elim
theorem srcCells_len {h : PH} {z : Nat} {v : Value} {xs : List Value} {n : Nat} (x : srcCells h z v xs n) : xs.length = n * z := by
  unfold srcCells at x
  split at x
  · obtain ⟨rfl, rfl, rfl⟩ := x; simp
  · obtain ⟨rfl, hl, hc⟩ := x; exact hl
  · obtain ⟨rfl, rfl, rfl⟩ := x; simp
  · exact x.elim

theorem setN_list (old mid rest xs : List Value) (h : mid.length = xs.length) : setN (old ++ mid ++ rest).toArray old.length xs = (old ++ xs ++ rest).toArray := by
  induction xs generalizing old mid with
  | nil =>
    have : mid = [] := List.eq_nil_of_length_eq_zero h
    subst this; simp [setN]
  | cons x xs ih =>
    cases mid with
    | nil => simp at h
    | cons m mid =>
      simp only [setN]
      have e : (old ++ m :: mid ++ rest).toArray.setIfInBounds old.length x = ((old ++ [x]) ++ mid ++ rest).toArray := by
        simp
      rw [e]
      have := ih (old ++ [x]) mid (by simpa using h)
      simp only [List.length_append, List.length_cons, List.length_nil, Nat.zero_add] at this
      rw [this]; simp

theorem does_append {P : Program} {t el : TypeId} {h : PH} {i : TypeInfo} {zv : Value} {base : Option Addr} {len cap : Nat} {src : Value} {K : Option Addr → Nat → Nat → PH → Prop} {ty : TypeId} {ts : Array TypeId} {xt : TypeId} {xd : TypeDesc}
    (hts : ts[0]? = some t) (hts1 : ts[1]? = some xt) (hxd : P.underlying xt = some xd) (hxi : ∀ k, xd ≠ .int k) (ht : P.underlying t = some (.slice el)) (hi : P.info? el = some i) (hz : i.zero = some zv) (hzs : zv.cells.size = i.size) (hb : 0 < i.bytes)
    (x : xApp h el i.size i.bytes base len cap src K) :
    Does P (Builtin.append_ ts ty #[.slice base len cap, src]) h fun v h' => ∃ a n c, v = .slice a n c ∧ K a n c h' := by
  obtain ⟨xs, n, hsrc, hone, hbound, x⟩ := x
  have hlen := srcCells_len hsrc
  unfold Builtin.append_
  rw [hts]
  simp only [List.getElem?_toArray, List.getElem?_cons_zero, List.getElem?_cons_succ]
  refine Does.read (reads_underlying ht) ?_
  simp only []
  have hso : Reads P (sizeOf el) h i.size := by
    have := reads_sizeOf (P := P) (h := h) (t := el) (by rw [hi]; rfl)
    simpa [Program.cellsOf, hi] using this
  refine Does.read hso ?_
  rw [hts1]
  simp only []
  refine Does.read (reads_underlying hxd) ?_
  refine Does.read (v := false) ?_ ?_
  · cases xd <;> first | exact absurd rfl (hxi _) | exact Reads.pure _
  simp only [Bool.false_eq_true, if_false, Bool.not_false, if_true, false_or]
  refine Does.read (reads_lenOf hsrc) ?_
  by_cases hfit : len + n ≤ cap
  · rw [if_pos hfit]
    refine Does.read (reads_first hsrc) ?_
    cases base with
    | none =>
      obtain ⟨rfl, rfl, hK0, _⟩ := x
      have hn : n = 0 := by omega
      subst hn
      exact Does.pure ⟨none, 0, 0, rfl, hK0 rfl⟩
    | some a =>
      obtain ⟨old, rest, ha, hblk, hold, hrest, hlc, hK⟩ := x
      simp only []
      have hspot : a.spot = none := by rw [ha]
      have hoff : a.off = 0 := by rw [ha]
      have hxr : xs.length ≤ rest.length := by rw [hlen, hrest]; exact Nat.mul_le_mul_right _ (by omega)
      have hsplit : rest = rest.take xs.length ++ rest.drop xs.length := (List.take_append_drop _ _).symm
      have hmid : (rest.take xs.length).length = xs.length := by simp; omega
      obtain ⟨e1, e2, e3⟩ := add_off (a := a) (len * i.size) hspot
      have hst : Does P (storeCells (a.add (len * i.size)) xs.toArray.toList) h fun _ h' => h' = h.upd a.block (.cells (old ++ xs ++ rest.drop xs.length).toArray el (0, 0)) := by
        apply Does.of_dSem
        refine dSem_storeCells (el := el) (c := (old ++ rest).toArray) e3 _ 0 _ (by rw [e1]; exact hblk) hone (by rw [e2, hoff]; simp; rw [← hold]; omega) ?_
        rw [e1, e2, hoff, ← hold]
        simp only [Nat.zero_add, Nat.add_zero]
        have := setN_list old (rest.take xs.length) (rest.drop xs.length) xs hmid
        rw [List.append_assoc, ← hsplit] at this
        rw [this]
      refine Does.bind (hst.mono ?_)
      rintro _ h' rfl
      refine Does.pure ⟨some a, len + n, cap, rfl, ?_⟩
      have := hK a.block cap (rest.drop xs.length) (by simp [PH.del]) hfit (by rw [List.length_drop, hrest, hlen, ← Nat.sub_mul]; congr 1; omega)
      have e : (h.del a.block).upd a.block (.cells (old ++ xs ++ rest.drop xs.length).toArray el (0, 0)) = h.upd a.block (.cells (old ++ xs ++ rest.drop xs.length).toArray el (0, 0)) := by
        funext z; simp only [PH.upd, PH.del]; split <;> rfl
      rw [e, ← ha] at this
      exact this
  · rw [if_neg hfit]
    refine Does.read (reads_typeInfo hi) ?_
    rw [if_neg (by simp; omega)]
    refine Does.read (reads_typeInfo hi) ?_
    have hcapn := nextslicecap_le (n := len + n) (c := cap) (by omega)
    rw [if_neg (by
      have := Nat.mul_le_mul_right i.bytes hcapn
      omega)]
    refine Does.bind (does_choose fun m _ hm => ?_)
    obtain ⟨tt, hm⟩ := hm rfl
    have hmn : len + n ≤ m := by rw [hm]; simp only [Question.cut]; omega
    refine Does.read (reads_typeInfo hi) ?_
    refine Does.read (v := ()) ?_ ?_
    · unfold askRoom
      split
      · intro W w st; rfl
      · exact Reads.pure _
    have hold : ∃ old : List Value, old.length = len * i.size ∧ Reads P (Builtin.firstCells i.size len (.slice base len cap)) h old.toArray ∧
        (∀ b junk, h b = none → List.length junk = (m - (len + n)) * i.size → ∃ h', h'.le (h.upd b (.cells (old ++ xs ++ junk).toArray el (0, 0))) ∧ K (some ⟨b, 0, none⟩) (len + n) m h') := by
      cases base with
      | none =>
        obtain ⟨rfl, rfl, _, hK⟩ := x
        refine ⟨[], by simp, Reads.pure _, fun b junk hb hj => ⟨_, PH.le_refl _, ?_⟩⟩
        have := hK (by omega) b m junk hb (by omega) (by simpa using hj)
        simpa using this
      | some a =>
        obtain ⟨old, rest, ha, hblk, hold, hrest, hlc, hK⟩ := x
        refine ⟨old, hold, ?_, fun b junk hb hj => ⟨(h.del a.block).upd b (.cells (old ++ xs ++ junk).toArray el (0, 0)), ?_, hK b m junk ?_ hmn hj⟩⟩
        · show Reads P (loadCells a (len * i.size)) h _
          rw [← hold]
          refine reads_cells fun j hj => ?_
          have hspot : a.spot = none := by rw [ha]
          have hoff : a.off = 0 := by rw [ha]
          obtain ⟨e1, e2, e3⟩ := add_off (a := a) j hspot
          unfold PH.cell
          rw [e1, hblk, e2, e3, hoff]
          simp [List.getElem?_append_left hj]
        · intro y O hy
          simp only [PH.upd, PH.del] at hy ⊢
          split at hy
          · rename_i e; subst e; simp at hy; simp [hy]
          · rename_i e
            rw [if_neg e]
            split at hy
            · cases hy
            · exact hy
        · simp only [PH.del]; split
          · rfl
          · exact hb
    obtain ⟨old, holdl, hro, hfin⟩ := hold
    refine Does.read hro ?_
    refine Does.read (reads_first hsrc) ?_
    refine Does.read (reads_zero hi hz) ?_
    have hjl : (Builtin.zeroCells zv.cells (m - (len + n))).toList.length = (m - (len + n)) * i.size := by
      simp [Builtin.zeroCells, hzs]
    show Does P (newRow el _ >>= fun r => Pure.pure (Value.slice (some r) (len + n) m)) h _
    unfold newRow
    intro W w st
    obtain ⟨h', hle, hK⟩ := hfin w.heap.size _ st.fresh hjl
    refine ⟨.slice (some ⟨w.heap.size, 0, none⟩) (len + n) m, { w with heap := w.heap.push (.cells (old.toArray ++ xs.toArray ++ Builtin.zeroCells zv.cells (m - (len + n))) el) }, h', rfl, ?_, _, _, _, rfl, hK⟩
    have e : (old ++ xs ++ (Builtin.zeroCells zv.cells (m - (len + n))).toList).toArray = old.toArray ++ xs.toArray ++ Builtin.zeroCells zv.cells (m - (len + n)) := by
      apply Array.ext'; simp
    have hp := st.push (.cells (old.toArray ++ xs.toArray ++ Builtin.zeroCells zv.cells (m - (len + n))) el (0, 0))
    rw [e] at hle
    exact hp.le hle

theorem wrap64_id {n : Int} (h0 : -9223372036854775808 ≤ n) (h1 : n < 9223372036854775808) : IntKind.i64.wrap n = n := by
  have e : IntKind.i64.wrap n = if 9223372036854775808 ≤ n % 18446744073709551616 then n % 18446744073709551616 - 18446744073709551616 else n % 18446744073709551616 := by
    simp [IntKind.wrap, IntKind.bits, IntKind.signed]
  rw [e]; split <;> omega

theorem range_zero (z : Array Value) (n : Nat) : (Array.range (n * z.size)).map (z[· % z.size]!) = (List.replicate n z.toList).flatten.toArray := by
  apply Array.ext'
  simp only [Array.toList_map, Array.toList_range]
  rcases Nat.eq_zero_or_pos z.size with h0 | hp
  · have : z = #[] := Array.eq_empty_of_size_eq_zero h0
    subst this; simp
  induction n with
  | zero => simp
  | succ n ih =>
    rw [List.replicate_succ', List.flatten_append, ← ih]
    rw [show (n + 1) * z.size = n * z.size + z.size from by rw [Nat.add_mul]; simp]
    rw [List.range_add, List.map_append]
    congr 1
    simp only [List.flatten_cons, List.flatten_nil, List.append_nil, List.map_map]
    apply List.ext_getElem (by simp)
    intro i h1 h2
    simp at h1
    simp [Nat.mod_eq_of_lt h1, h1]

theorem does_make {P : Program} {t el : TypeId} {h : PH} {i : TypeInfo} {zv : Value} {len cap : Int} {k k' : IntKind} {K : Option Addr → Nat → Nat → PH → Prop}
    (ht : P.underlying t = some (.slice el)) (hi : P.info? el = some i) (hz : i.zero = some zv) (hzs : zv.cells.size = i.size) (hsp : 0 < i.size)
    (x : xMake h el zv.cells i.bytes len cap K) : Does P (Instr.makeSlice t (.int k len) (.int k' cap)) h fun v h' => ∃ a n c, v = .slice a n c ∧ K a n c h' := by
  obtain ⟨h0, h1, h2, h3, hK⟩ := x
  unfold Instr.makeSlice
  refine Does.read (reads_underlying ht) ?_
  refine Does.read (v := len) (Reads.bind (v := (k, len)) (Reads.pure _) (Reads.pure _)) ?_
  refine Does.read (v := cap) (Reads.bind (v := (k', cap)) (Reads.pure _) (Reads.pure _)) ?_
  refine Does.read (reads_typeInfo hi) ?_
  simp only []
  have e1 : IntKind.i64.wrap len = len := wrap64_id (by omega) (by omega)
  have e2 : IntKind.i64.wrap cap = cap := wrap64_id (by omega) h2
  rw [e1, e2]
  rw [if_neg (by simp; omega)]
  refine Does.read (v := ()) ?_ ?_
  · unfold askRoom
    split
    · intro W w st; rfl
    · exact Reads.pure _
  have hso : Reads P (sizeOf el) h i.size := by
    have := reads_sizeOf (P := P) (h := h) (t := el) (by rw [hi]; rfl)
    simpa [Program.cellsOf, hi] using this
  refine Does.read hso ?_
  have fin : ∀ zz : Array Value, (Array.range (cap.toNat * i.size)).map (zz[· % zz.size]!) = (List.replicate cap.toNat zv.cells.toList).flatten.toArray →
      Does P (newRow el ((Array.range (cap.toNat * i.size)).map (zz[· % zz.size]!)) >>= fun r => Pure.pure (Value.slice (some r) len.toNat cap.toNat)) h fun v h' => ∃ a n c, v = .slice a n c ∧ K a n c h' := by
    intro zz e
    rw [e]
    unfold newRow
    intro W w st
    exact ⟨.slice (some ⟨w.heap.size, 0, none⟩) len.toNat cap.toNat, _, _, rfl, st.push _, _, _, _, rfl, hK _ st.fresh⟩
  by_cases hc : cap.toNat * i.size = 0
  · rw [if_pos hc]
    refine Does.read (Reads.pure #[]) (fin #[] ?_)
    have : cap.toNat = 0 := by rcases Nat.mul_eq_zero.1 hc with h | h <;> omega
    simp [this]
  · rw [if_neg hc]
    refine Does.read (reads_zero hi hz) ?_
    refine Does.read (Reads.pure _) (fin _ ?_)
    rw [← hzs]; exact range_zero _ _

/-! ### The operations -/

/-- A call's value, typed. -/
def xCall (P : Program) (f : FuncId) (args : Array Value) (ls : List Leaf) (h : PH) (K : Value → PH → Prop) : Prop := Meets P f args h fun v h' => oRes ls v fun u => K u h'

/-- What an operation that writes, makes memory or calls asks, and its value. -/
def gRaw (P : Program) (o : Oper) (ρ : Operand → Value) (h : PH) (K : Value → PH → Prop) : Prop :=
  match o.op with
  | .store t a x =>
    match P.info? t, ρ a with
    | some i, .pointer (some p) => xSt i.size h p (ρ x).cells.toList (K undef)
    | _, _ => False
  | .makeSlice t l c =>
    match P.underlying t, ρ l, ρ c with
    | some (.slice el), .int _ len, .int _ cap => (match P.info? el with
      | some i => (match i.zero with
        | some zv => (match decide (zv.cells.size = i.size ∧ 0 < i.size) with
          | true => xMake h el zv.cells i.bytes len cap fun a n m h' => K (.slice a n m) h'
          | false => False)
        | none => False)
      | none => False)
    | _, _, _ => False
  | .mapUpdate t m k x | .insert t m k x =>
    match P.underlying t, ρ m with
    | some (.map key _), .map mm => xPut P key h mm (ρ k) (ρ x) (K undef)
    | _, _ => False
  | .range t x =>
    match P.underlying t, ρ x with
    | some (.map _ _), .map m => xRange h m fun b h' => K (.pointer (some ⟨b, 0, none⟩)) h'
    | _, _ => False
  | .next it false =>
    match ρ it with
    | .pointer (some ⟨r, 0, none⟩) => xNext h r (K (.tuple #[.bool false])) fun k u h' => K (.tuple #[.bool true, k, u]) h'
    | _ => False
  | .call { callee := .builtin .append, args := as, argTypes := ts } =>
    match ts[0]?, ts[1]?, as.map ρ with
    | some t, some xt, ⟨[.slice base len cap, src]⟩ => (match P.underlying t, P.underlying xt with
      | some (.slice el), some xd => (match P.info? el with
        | some i => (match i.zero with
          | some zv => (match decide (zv.cells.size = i.size ∧ 0 < i.bytes) && !(match xd with | .int _ => true | _ => false) with
            | true => xApp h el i.size i.bytes base len cap src fun a n m h' => K (.slice a n m) h'
            | false => False)
          | none => False)
        | none => False)
      | _, _ => False)
    | _, _, _ => False
  | .call { callee := .builtin .delete, args := as, argTypes := ts } =>
    match ts[0]?, as.map ρ with
    | some t, ⟨[.map m, k]⟩ => (match P.underlying t with
      | some (.map key _) => xDel P key h m k (K (.tuple #[]))
      | _ => False)
    | _, _ => False
  | _ => dSem P (execOp ρ o) h fun n h' => match n with
    | .value v => K v h'
    | .skip => K undef h'
    | .enter f args => xCall P f args (resOf P o.type) h' K
    | _ => False

/-- What comes of it. -/
def dNext (P : Program) (K : Value → PH → Prop) : Next → PH → Prop
  | .value v, h => K v h
  | .skip, h => K undef h
  | .enter f args, h => Meets P f args h K
  | _, _ => False

theorem does_value {P : Program} {s : Sem Value} {h : PH} {K : Value → PH → Prop} (d : Does P s h K) : Does P (do pure (Next.value (← s)) : Sem Next) h (dNext P K) := Does.bind (d.mono fun _ _ k => Does.pure k)
theorem does_skip {P : Program} {s : Sem Unit} {h : PH} {K : Value → PH → Prop} (d : Does P s h fun _ h' => K undef h') : Does P (do s; pure Next.skip : Sem Next) h (dNext P K) := Does.bind (d.mono fun _ _ k => Does.pure k)

theorem gRaw_sound {P : Program} {o : Oper} {ρ : Operand → Value} {h : PH} {K : Value → PH → Prop} (hk : gRaw P o ρ h K) : Does P (execOp ρ o) h (dNext P K) := by
  have gen : dSem P (execOp ρ o) h (fun n h' => match n with | .value v => K v h' | .skip => K undef h' | .enter f args => xCall P f args (resOf P o.type) h' K | _ => False) → Does P (execOp ρ o) h (dNext P K) := by
    intro hk
    refine (Does.of_dSem hk).mono fun n h' k => ?_
    cases n <;> first | exact k.elim | exact k | exact Meets.mono k fun v h'' hv => oRes_same hv
  unfold gRaw at hk
  split at hk
  · -- store
    rename_i t a x ho
    split at hk
    · rename_i i p hi hp
      obtain ⟨hl, hz, hone, c, el, hblk, hsp, hfit, hK⟩ := hk
      unfold execOp; rw [ho]; simp only []
      refine does_skip ?_
      unfold Instr.storeAt Instr.sureAddr; rw [hp]
      refine Does.read (Reads.pure p) ?_
      unfold storeVar
      have hso : Reads P (sizeOf t) h i.size := by
        have := reads_sizeOf (P := P) (h := h) (t := t) (by rw [hi]; rfl)
        simpa [Program.cellsOf, hi] using this
      refine Does.read hso ?_
      have hsz : (ρ x).cells.size = i.size := by simpa using hl
      rw [if_neg (by simp [hsz])]
      apply Does.of_dSem
      exact dSem_storeCells (el := el) hsp _ 0 h c hblk hone (by omega) hK
    · exact hk.elim
  · -- makeSlice
    rename_i t l c ho
    split at hk
    · rename_i el k len k' cap ht hl hc
      split at hk
      · rename_i i hi
        split at hk
        · rename_i zv hz
          split at hk
          · rename_i hd
            have hd := of_decide_eq_true hd
            unfold execOp; rw [ho]; simp only []
            refine does_value ?_
            rw [hl, hc]
            exact (does_make ht hi hz hd.1 hd.2 hk).mono fun v h' ⟨a, n, m, e, k⟩ => by rw [e]; exact k
          · exact hk.elim
        · exact hk.elim
      · exact hk.elim
    · exact hk.elim
  · -- mapUpdate
    rename_i t m k x ho
    split at hk
    · rename_i key el r ht hm
      unfold execOp; rw [ho]; simp only []
      refine does_skip ?_
      rw [hm]
      exact does_mapUpdate ht hk
    · exact hk.elim
  · -- insert
    rename_i t m k x ho
    split at hk
    · rename_i key el r ht hm
      unfold execOp; rw [ho]; simp only []
      refine does_skip ?_
      rw [hm]
      exact does_mapUpdate ht hk
    · exact hk.elim
  · -- range
    rename_i t x ho
    split at hk
    · rename_i key el r ht hx
      obtain ⟨r, es, cl, rfl, hr, hK⟩ := hk
      unfold execOp; rw [ho]; simp only []
      refine does_value ?_
      unfold Instr.range
      refine Does.read (reads_underlying ht) ?_
      rw [hx]; simp only []
      refine Does.read (reads_getObj hr rfl) ?_
      refine Does.read (Reads.pure _) ?_
      exact Does.new fun b hb => Does.pure (hK b hb)
    · exact hk.elim
  · -- next
    rename_i it ho
    split at hk
    · rename_i r hr
      unfold execOp; rw [ho]; simp only []
      refine does_value ?_
      rw [hr]
      refine (does_next hk).mono ?_
      rintro v h' (⟨rfl, k⟩ | ⟨x, u, rfl, k⟩) <;> exact k
    · exact hk.elim
  · -- append
    rename_i as ts ho
    split at hk
    · rename_i t xt base len cap src ht0 ht1 has
      split at hk
      · rename_i el xd hel hxd
        split at hk
        · rename_i i hi
          split at hk
          · rename_i zv hz
            split at hk
            · rename_i hd
              simp only [Bool.and_eq_true, decide_eq_true_eq, Bool.not_eq_true'] at hd
              unfold execOp; rw [ho]; simp only []
              refine Does.read (v := { target := .builtin .append ts o.type (as.map fun | .const _ => true | _ => false), args := as.map ρ }) (Reads.pure _) ?_
              show Does P (do pure (Next.value (← Builtin.append_ ts o.type (as.map ρ)))) h _
              refine does_value ?_
              rw [has]
              refine (does_append ht0 ht1 hxd ?_ hel hi hz hd.1.1 hd.1.2 hk).mono fun v h' ⟨a, n, m, e, k⟩ => by rw [e]; exact k
              intro k e; subst e; simp at hd
            · exact hk.elim
          · exact hk.elim
        · exact hk.elim
      · exact hk.elim
    · exact hk.elim
  · -- delete
    rename_i as ts ho
    split at hk
    · rename_i t r k ht0 has
      split at hk
      · rename_i key el ht
        unfold execOp; rw [ho]; simp only []
        refine Does.read (v := { target := .builtin .delete ts o.type (as.map fun | .const _ => true | _ => false), args := as.map ρ }) (Reads.pure _) ?_
        show Does P (do pure (Next.value (← Builtin.delete_ ts o.type (as.map ρ)))) h _
        refine does_value ?_
        rw [has]
        exact (does_delete ht0 ht hk).mono fun v h' ⟨e, k⟩ => by rw [e]; exact k
      · exact hk.elim
    · exact hk.elim
  · exact gen hk

/-- The operations that 'fRaw' takes. -/
def isFlt : Op → Bool
  | .alloc _ | .box _ _ | .buildSlice _ _ _ | .store _ _ _ | .insert _ _ _ _ | .mapUpdate _ _ _ _ | .makeMap _ _ | .makeSlice _ _ _ | .range _ _ | .next _ _ => false
  | .call { callee := .builtin b, .. } => (match b with | .len | .cap | .min | .max => true | _ => false)
  | .call _ => false
  | _ => true

def gOp (P : Program) (o : Oper) (e : Env) (h : PH) (K : Value → PH → Prop) : Prop :=
  match known e o with
  | true => gRaw P o (evD e) h K
  | false => False

/-- Any operation, in the order of the text. -/
def aOp (P : Program) (o : Oper) (e : Env) (h : PH) (K : Value → PH → Prop) : Prop :=
  match isFlt o.op with
  | true => fOp P o e h fun v => K v h
  | false => gOp P o e h K

theorem gOp_sound {P : Program} {o : Oper} {e : Env} {h : PH} {K : Value → PH → Prop} (hk : gOp P o e h K) {W : World} {a : Act} {w : World} (f : Fits e a) (st : St W h w) (Q : Exit → Act → World → Prop) :
    o.wp P a w (fun a' w' => ∃ v h', a' = a.put o.dst v ∧ St W h' w' ∧ K v h') Q := by
  unfold gOp at hk
  split at hk
  · rename_i hn
    obtain ⟨n, w', h', hr, st', k⟩ := gRaw_sound hk W w st
    unfold Oper.wp
    rw [known_exec f hn, hr]
    cases n <;> first | exact k.elim | skip
    · exact ⟨_, h', rfl, st', k⟩
    · exact ⟨_, h', rfl, st', k⟩
    · rename_i fn args
      refine (k W w' st').mono ?_
      rintro e w'' ⟨v, h'', rfl, st'', k⟩
      exact ⟨v, h'', rfl, st'', k⟩
  · exact hk.elim

theorem aOp_sound {P : Program} {o : Oper} {e : Env} {h : PH} {K : Value → PH → Prop} (hk : aOp P o e h K) {W : World} {a : Act} {w : World} (f : Fits e a) (st : St W h w) (Q : Exit → Act → World → Prop) :
    o.wp P a w (fun a' w' => ∃ v h', a' = a.put o.dst v ∧ St W h' w' ∧ K v h') Q := by
  unfold aOp at hk
  split at hk
  · obtain ⟨v, k, hr⟩ := fOp_sound hk
    unfold Oper.wp
    rw [hr W a w f st]
    exact ⟨v, h, rfl, st, k⟩
  · exact gOp_sound hk f st Q

end Go.Sx
