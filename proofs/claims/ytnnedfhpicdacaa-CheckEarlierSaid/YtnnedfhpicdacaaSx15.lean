/-
  SX, part 15: a function that ranges over a function: its reading, and that it is a contract.
-/
import Derived.Test.YtnnedfhpicdacaaSx14
import Derived.RangeFuncLeaves
namespace Go.Sx
open Go

/-- The range over a function: the record and the block for deferred calls are laid; the function that is ranged over is called with yield; the record ends. -/
def xRF (P : Program) (f : FuncId) (fs : List Value) (ps : Array Tmp) (assign body : Code) (e : Env) (m : Nat) (h : PH) (K : Nat → PH → Prop) : Prop :=
  ∀ (fn : FuncId) (tmps : Array Value) (b l : Nat), m ≤ tmps.size → Fits e { tmps := tmps, defers := [] } → h b = none → h l = none → b ≠ l →
    Meets P f (.func (.yield l) #[] #[] :: fs).toArray ((h.upd b (.deferred (some []))).upd l (.loop { state := .ready, pending := none, fn := fn, tmps := tmps, params := ps, assign := assign, body := body, defers := b })) fun _ h2 =>
      ∃ r : Loop, h2 l = some (.loop r) ∧ r.state ≠ .busy ∧ r.pending = none ∧ K b (h2.upd l (.loop { r with state := .exhausted }))

/-- .. of a function value that is known by what it leads to. -/
def enterable (P : Program) (f : FuncId) : Bool :=
  match P.funcs[f]? with
  | some fn => !(fn.name == "runtime.NumGoroutine") && fn.body.isSome
  | none => false
theorem enterable_run {P : Program} {f : FuncId} (h : enterable P f = true) (args : Array Value) (w : World) : (callFunc f args).run P w = .ok (.enter f args) w := by
  unfold enterable at h
  split at h
  · rename_i fn hf
    simp only [Bool.and_eq_true, Bool.not_eq_true', beq_eq_false_iff_ne, ne_eq] at h
    obtain ⟨h1, h2⟩ := h
    cases hb : fn.body with
    | none => rw [hb] at h2; cases h2
    | some c => simp [callFunc, hf, h1, hb]
  · cases h

def xRFv (P : Program) (v : Value) (ps : Array Tmp) (assign body : Code) (e : Env) (m : Nat) (h : PH) (K : Nat → PH → Prop) : Prop :=
  ∃ (f : FuncId) (fs : List Value), v = .func (.func f) #[] fs.toArray ∧ enterable P f = true ∧ xRF P f fs ps assign body e m h K
/-- The two codes of a function's range over a function. -/
def rfOf : Code → Option (Code × Code)
  | .rangeFunc _ _ a b => some (a, b)
  | .seq x y => (match rfOf x with | some p => some p | none => rfOf y)
  | .block _ c => rfOf c
  | _ => none
def rfBoth (fn : Func) : Code × Code := match fn.body with | some c => (rfOf c).getD (.skip, .skip) | none => (.skip, .skip)
def rfAssign (fn : Func) : Code := (rfBoth fn).1
def rfBody (fn : Func) : Code := (rfBoth fn).2
/-- A round's environment. -/
theorem fits_round {e : Env} {tm : Array Value} {t : Nat} {v : Value} (f : Fits e { tmps := tm, defers := [] }) (ht : t < tm.size) : Fits ((t, v) :: e) { tmps := ((#[t] : Array Tmp).zip #[v]).foldl (fun tmps (t, a) => tmps.setIfInBounds t a) tm, defers := [] } := by
  have := f.put (some t) v (fun s hs => by cases hs; exact ht)
  refine ⟨fun s u hs => ?_⟩
  have h2 := this.g s u hs
  simpa [Act.put] using h2

/-- A round, its codes named. -/
theorem yield_of2 {P : Program} {l : Nat} {r : Loop} {h : PH} {args : Array Value} {e0 : Env} {A B : Code} {annA annB : Ann} {K : Value → PH → Prop} {m : Nat} (eA : r.assign = A) (eB : r.body = B) (hl : h l = some (.loop r)) (hs : r.state = .ready) (ha : args.size = r.params.size)
    (hf : Fits e0 { tmps := (r.params.zip args).foldl (fun tmps (t, a) => tmps.setIfInBounds t a) r.tmps, defers := [] }) (hm : m ≤ ((r.params.zip args).foldl (fun tmps (t, a) => tmps.setIfInBounds t a) r.tmps).size)
    (hinA : codeIn m A = true) (hinB : codeIn m B = true)
    (hd : dCodeI P A annA e0 h (fun e1 h1 => h1 l = some (.loop r) ∧ dCodeI P B annB e1 (h1.upd l (.loop { r with state := .busy })) (fun _ h2 => h2 l = some (.loop { r with state := .busy }) ∧ K (.bool true) (h2.upd l (.loop { r with state := .ready, pending := none }))) (fun _ _ _ => False) (fun _ _ => False)) (fun _ _ _ => False) (fun _ _ => False)) :
    xYield P l args h K := by
  subst eA
  subst eB
  exact yield_of hl hs ha hf hm hinA hinB hd

/-- Code that ranges over functions, outermost, with nothing in it that leaves a loop early; 'D': the blocks for deferred calls. -/
def dCodeR (P : Program) (m : Nat) : Code → Ann → Env → PH → List Nat → (Env → PH → List Nat → Prop) → (Env → PH → List Nat → Prop) → Prop
  | .seq x y, ann, e, h, D, k, kr =>
    match ann with
    | .seq ax ay => dCodeR P m x ax e h D (fun e' h' D' => dCodeR P m y ay e' h' D' k kr) kr
    | _ => False
  | .block _ c, ann, e, h, D, k, kr =>
    match ann with
    | .block _ a => dCodeR P m c a e h D k kr
    | _ => False
  | .rangeFunc g ps assign body, _, e, h, D, k, _ =>
    match ev e g with
    | some v => xRFv P v ps assign body e m h fun b h' => k e h' (b :: D)
    | none => False
  | .region i ops d, ann, e, h, D, k, kr => dCodeI P (.region i ops d) ann e h (fun e' h' => k e' h' D) (fun _ _ _ => False) (fun e' h' => kr e' h' D)
  | .ret, ann, e, h, D, k, kr => dCodeI P .ret ann e h (fun e' h' => k e' h' D) (fun _ _ _ => False) (fun e' h' => kr e' h' D)
  | .skip, ann, e, h, D, k, kr => dCodeI P .skip ann e h (fun e' h' => k e' h' D) (fun _ _ _ => False) (fun e' h' => kr e' h' D)
  | .cond c x y, ann, e, h, D, k, kr => dCodeI P (.cond c x y) ann e h (fun e' h' => k e' h' D) (fun _ _ _ => False) (fun e' h' => kr e' h' D)
  | .loop c, ann, e, h, D, k, kr => dCodeI P (.loop c) ann e h (fun e' h' => k e' h' D) (fun _ _ _ => False) (fun e' h' => kr e' h' D)
  | _, _, _, _, _, _, _ => False

def markOf (b : Nat) : Deferred := { target := .collected b, args := #[] }
def PostR (W : World) (m : Nat) (k kr : Env → PH → List Nat → Prop) : Exit → Act → World → Prop
  | .normal, a, w => ∃ e h D, Fits e a ∧ St W h w ∧ a.defers = D.map markOf ∧ m ≤ a.tmps.size ∧ k e h D
  | .ret, a, w => ∃ e h D, Fits e a ∧ St W h w ∧ a.defers = D.map markOf ∧ kr e h D
  | _, _, _ => False

def codeInR (m : Nat) : Code → Bool
  | .seq x y => codeInR m x && codeInR m y
  | .block _ c => codeInR m c
  | .rangeFunc .. => true
  | c => codeIn m c

theorem dCodeR_sound {P : Program} {dp : Nat} {W : World} {m : Nat} : ∀ (c : Code) (ann : Ann) (e : Env) (h : PH) (D : List Nat) (k kr : Env → PH → List Nat → Prop) (a : Act) (w : World),
    dCodeR P m c ann e h D k kr → codeInR m c = true → Fits e a → St W h w → a.defers = D.map markOf → m ≤ a.tmps.size → c.wpIn Fence.wide dp P (PostR W m k kr) a w := by
  intro c
  have plain : ∀ (c : Code) (ann : Ann) (e : Env) (h : PH) (D : List Nat) (k kr : Env → PH → List Nat → Prop) (a : Act) (w : World),
      dCodeI P c ann e h (fun e' h' => k e' h' D) (fun _ _ _ => False) (fun e' h' => kr e' h' D) → codeIn m c = true → Fits e a → St W h w → a.defers = D.map markOf → m ≤ a.tmps.size → c.wpIn Fence.wide dp P (PostR W m k kr) a w := by
    intro c ann e h D k kr a w hd hin hf st hD hsz
    refine wpIn_mono (dCodeI_sound wd_wide (dp := dp) c ann e h _ _ _ a w hd hin hf st hsz) ?_
    intro ex a' w' hp
    cases ex with
    | normal => obtain ⟨hk, e', h', f', s', x⟩ := hp; exact ⟨e', h', D, f', s', hk.3.trans hD, by rw [hk.1]; exact hsz, x⟩
    | ret => obtain ⟨hk, e', h', f', s', x⟩ := hp; exact ⟨e', h', D, f', s', hk.trans hD, x⟩
    | exit id => exact hp.2.elim fun _ ⟨_, _, _, hx⟩ => hx
    | goto l => exact (show False from hp).elim
    | panic ch => exact (show False from hp).elim
    | outgrown => exact (show False from hp).elim
  induction c with
  | seq x y ihx ihy =>
    intro ann e h D k kr a w hd hin hf st hD hsz
    unfold dCodeR at hd
    split at hd
    · rename_i ax ay
      simp only [codeInR, Bool.and_eq_true] at hin
      refine wpIn_seq (wpIn_mono (ihx ax e h D _ kr a w hd hin.1 hf st hD hsz) ?_)
      intro ex a' w' hp
      cases ex with
      | normal =>
        obtain ⟨e', h', D', hf', st', hD', hsz', hd'⟩ := hp
        exact ihy ay e' h' D' k kr a' w' hd' hin.2 hf' st' hD' hsz'
      | ret => exact hp
      | exit id => exact (show False from hp).elim
      | goto l => exact (show False from hp).elim
      | panic ch => exact (show False from hp).elim
      | outgrown => exact (show False from hp).elim
    · exact hd.elim
  | block id c ih =>
    intro ann e h D k kr a w hd hin hf st hD hsz
    unfold dCodeR at hd
    split at hd
    · rename_i sl ax
      refine wpIn_block (wpIn_mono (ih ax e h D k kr a w hd hin hf st hD hsz) ?_)
      intro ex a' w' hp
      cases ex with
      | normal => exact hp
      | ret => exact hp
      | exit id => exact (show False from hp).elim
      | goto l => exact (show False from hp).elim
      | panic ch => exact (show False from hp).elim
      | outgrown => exact (show False from hp).elim
    · exact hd.elim
  | rangeFunc g ps assign body =>
    intro ann e h D k kr a w hd hin hf st hD hsz
    unfold dCodeR at hd
    split at hd
    · rename_i v hev
      obtain ⟨f, fs, rfl, hen, hd⟩ := hd
      refine wpIn_rangeFunc fun fn _ => ?_
      have hg : a.eval g = .func (.func f) #[] fs.toArray := hf.ev hev
      have s1 := st.push (.deferred (some []))
      have n1 : h w.heap.size = none := st.fresh
      have n2 : (h.upd w.heap.size (.deferred (some []))) (w.heap.size + 1) = none := by
        have := s1.fresh
        simpa using this
      have n2' : h (w.heap.size + 1) = none := by rw [PH.upd_ne _ _ (by omega)] at n2; exact n2
      have s2 := s1.push (.loop { state := .ready, pending := none, fn := fn, tmps := a.tmps, params := ps, assign := assign, body := body, defers := w.heap.size })
      have hsz1 : ({ w with heap := w.heap.push (.deferred (some [])) } : World).heap.size = w.heap.size + 1 := by simp
      rw [hsz1] at s2
      have call := hd fn a.tmps w.heap.size (w.heap.size + 1) hsz ⟨hf.g⟩ n1 n2' (by omega) W _ s2
      let w1 : World := (w.alloc (.deferred (some []))).alloc (.loop { state := .ready, pending := none, fn := fn, tmps := a.tmps, params := ps, assign := assign, body := body, defers := w.heap.size })
      refine ⟨w.heap.size + 1, [markOf w.heap.size], w1, { target := .fn (.func f) fs.toArray, args := #[.func (.yield (w.heap.size + 1)) #[] #[]] }, w1, f, (.func (.yield (w.heap.size + 1)) #[] #[] :: fs).toArray, w1, run_enterLoop_outer fn a.tmps ps assign body, ?_, fun _ _ => trivial, ?_, fun hd => (by cases hd), callsIn_wide.2 (call.mono ?_)⟩
      · simp only [resolve, rangeCall, hg, Deferred.ofValue]
        have hc : a.eval (.const (.func (.yield (w.heap.size + 1)) #[] #[])) = .func (.yield (w.heap.size + 1)) #[] #[] := rfl
        simp [hc]
      · show (callFunc f _).run P _ = _
        have : (#[Value.func (.yield (w.heap.size + 1)) #[] #[]] ++ fs.toArray) = (Value.func (.yield (w.heap.size + 1)) #[] #[] :: fs).toArray := by simp
        rw [this]
        exact enterable_run hen _ _
      · rintro ex w' ⟨v, h', rfl, st', r, hl, hbusy, hpend, hk⟩
        have hw := st'.sh _ _ hl
        have hlt : w.heap.size + 1 < w'.heap.size := (Array.getElem?_eq_some_iff.1 hw).1
        refine ⟨r.pending, _, run_endLoop hw hbusy, ?_⟩
        obtain ⟨st0, pd, fn0, tm0, pr0, as0, bd0, df0⟩ := r
        dsimp only at hpend
        subst hpend
        exact ⟨e, _, w.heap.size :: D, ⟨hf.g⟩, st'.setObj _ _ hlt, by rw [hD]; rfl, hsz, hk⟩
    · exact hd.elim
  | skip => exact fun ann e h D k kr a w hd hin hf st hD hsz => plain _ ann e h D k kr a w hd hin hf st hD hsz
  | region id ops draw => exact fun ann e h D k kr a w hd hin hf st hD hsz => plain _ ann e h D k kr a w hd hin hf st hD hsz
  | ret => exact fun ann e h D k kr a w hd hin hf st hD hsz => plain _ ann e h D k kr a w hd hin hf st hD hsz
  | cond c x y => exact fun ann e h D k kr a w hd hin hf st hD hsz => plain _ ann e h D k kr a w hd hin hf st hD hsz
  | loop c => exact fun ann e h D k kr a w hd hin hf st hD hsz => plain _ ann e h D k kr a w hd hin hf st hD hsz
  | _ => intro ann e h D k kr a w hd; exact hd.elim


/-- All blocks for deferred calls are there, and come away. -/
def marksOk : List Nat → PH → Prop
  | [], _ => True
  | b :: D, h => h b = some (.deferred (some [])) ∧ marksOk D (h.upd b (.deferred none))
def closeM : List Nat → PH → PH
  | [], h => h
  | b :: D, h => closeM D (h.upd b (.deferred none))

/-- The reading of a function that ranges over functions. -/
def dFnR (P : Program) (fn : Func) (ann : Ann) (args : Array Value) (h : PH) (Q : Value → PH → Prop) : Prop :=
  match fn.body with
  | some c => dCodeR P fn.ntmps c ann (argEnv args.toList 0) h [] (fun e h' D => marksOk D h' ∧ dRets P fn.results.toList e (closeM D h') fun vs => Q (retVal vs) (closeM D h')) (fun e h' D => marksOk D h' ∧ dRets P fn.results.toList e (closeM D h') fun vs => Q (retVal vs) (closeM D h'))
  | none => False
def fnOkR (fn : Func) (n : Nat) : Bool :=
  match fn.body with
  | some c => codeInR fn.ntmps c && Nat.ble n fn.ntmps
  | none => false

theorem leaves_marks {P : Program} {n : Nat} {fn : Func} {tmps : Array Value} {R : Ending → World → Prop} {W : World} : ∀ (D : List Nat) (h : PH) (w : World), St W h w → marksOk D h → (∀ w', St W (closeM D h) w' → ∃ v, (results fn tmps).run P w' = .ok v w' ∧ R (.returned v) w') → LeavesInM Fence.wide n P fn tmps R (D.map markOf) .returning w := by
  intro D
  induction D with
  | nil => exact fun h w st _ fin => fin w st
  | cons b D ih =>
    intro h w st hm fin
    obtain ⟨hb, hm⟩ := hm
    have hw := st.sh _ _ hb
    have hlt : b < w.heap.size := (Array.getElem?_eq_some_iff.1 hw).1
    exact ⟨by simp, .inl ⟨b, _, rfl, run_takeDeferred hw, ih _ _ (st.setObj b _ hlt) hm fin⟩⟩

theorem specR_of {P : Program} {f : FuncId} {fn : Func} {ann : Ann} {args : Array Value} {h : PH} {Q : Value → PH → Prop} (hf : P.funcs[f]? = some fn) (hok : fnOkR fn args.size = true)
    (hd : dFnR P fn ann args h Q) : Meets P f args h Q := by
  intro W w st
  unfold dFnR at hd
  unfold fnOkR at hok
  cases hb : fn.body with
  | none => rw [hb] at hd; exact hd.elim
  | some c =>
    rw [hb] at hd hok
    simp only [Bool.and_eq_true] at hok
    obtain ⟨hin, hle⟩ := hok
    have hle := Nat.le_of_ble_eq_true hle
    refine (callsIn_wide (n := 0)).1 (callsIn_of_wp_marks hf hb trivial ?_ rfl)
    have hsz : (args ++ Array.replicate (fn.ntmps - args.size) undef).size = fn.ntmps := by simp; omega
    have hfit : Fits (argEnv args.toList 0) { tmps := args ++ Array.replicate (fn.ntmps - args.size) undef, defers := [] } := by
      refine ⟨fun t v hg => ?_⟩
      obtain ⟨_, hv⟩ := argEnv_get _ _ _ _ hg
      simp only [Nat.sub_zero] at hv
      have hv' : args[t]? = some v := by simpa using hv
      have hlt : t < args.size := (Array.getElem?_eq_some_iff.1 hv').1
      simp only [Array.getElem?_append, hlt, if_true]
      exact hv'
    refine wpIn_mono (dCodeR_sound c ann _ h [] _ _ _ w hd hin hfit st rfl (by rw [hsz]; exact Nat.le_refl _)) ?_
    have fin : ∀ (a : Act) (w' : World) (e : Env) (h' : PH) (D : List Nat), a.defers = D.map markOf → Fits e a → St W h' w' → marksOk D h' → dRets P fn.results.toList e (closeM D h') (fun vs => Q (retVal vs) (closeM D h')) →
        LeavesInM Fence.wide 0 P fn a.tmps (fun e w' => ∃ v h', e = .returned v ∧ St W h' w' ∧ Q v h') a.defers .returning w' := by
      intro a w' e h' D hdf hf' st' hm hr
      rw [hdf]
      refine leaves_marks D h' w' st' hm fun w2 st2 => ?_
      obtain ⟨vs, hQ, hrun⟩ := dRets_sound hf' st2 _ _ hr
      refine ⟨retVal vs, ?_, retVal vs, _, rfl, st2, hQ⟩
      rw [results_eq]
      have hl : fn.results = fn.results.toList.toArray := by simp
      rw [hl, List.mapM_toArray, Sem.run_bind, Sem.run_map, hrun]
      simp only [Result.andThen_ok]
      unfold retVal
      cases vs with
      | nil => rfl
      | cons v r =>
        cases r with
        | nil => rfl
        | cons u r =>
          simp only [List.size_toArray, List.length_cons]
          rw [dif_neg (by omega)]
          rfl
    intro ex a w' hp
    cases ex with
    | normal => obtain ⟨e, h', D, hf', st', hD, _, hm, hr⟩ := hp; exact fin a w' e h' D hD hf' st' hm hr
    | ret => obtain ⟨e, h', D, hf', st', hD, hm, hr⟩ := hp; exact fin a w' e h' D hD hf' st' hm hr
    | exit id => exact (show False from hp).elim
    | goto l => exact (show False from hp).elim
    | panic ch => exact (show False from hp).elim
    | outgrown => exact (show False from hp).elim

end Go.Sx
