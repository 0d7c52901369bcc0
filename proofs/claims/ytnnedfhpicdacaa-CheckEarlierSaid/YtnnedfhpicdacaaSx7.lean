/-
  SX, part 7: code, loops, functions: a function's reading over what is known of memory, and that it is a contract.
-/
import Derived.Test.YtnnedfhpicdacaaSx6
namespace Go.Sx
open Go

def At.lam {T : Type} : (a : At) → (Value → T) → a.fn T
  | .int k, F => fun n => F (.int k n)
  | .bool, F => fun n => F (.bool n)
  | .str, F => fun n => F (.string n)
  | .ptr, F => fun n => F (.pointer n)
  | .slice, F => fun a l m => F (.slice a l m)
  | .map, F => fun n => F (.map n)
  | .any, F => fun n => F n
def At.app {T : Type} : (a : At) → a.fn T → Value → (T → Prop) → Prop
  | .int k, F, v, G => match v with
    | .int k' n => (match decide (k = k') with | true => G (F n) | false => False)
    | _ => False
  | .bool, F, v, G => match v with
    | .bool n => G (F n)
    | _ => False
  | .str, F, v, G => match v with
    | .string n => G (F n)
    | _ => False
  | .ptr, F, v, G => match v with
    | .pointer n => G (F n)
    | _ => False
  | .slice, F, v, G => match v with
    | .slice a l m => G (F a l m)
    | _ => False
  | .map, F, v, G => match v with
    | .map n => G (F n)
    | _ => False
  | .any, F, v, G => G (F v)

/-- What goes on from slots of some shapes. -/
abbrev Slots := List (Nat × At)
def Fn : Slots → Type
  | [] => PH → Prop
  | (_, a) :: r => a.fn (Fn r)
def absF : (sl : Slots) → (Env → PH → Prop) → Fn sl
  | [], F => F []
  | (t, a) :: r, F => a.lam fun v => absF r fun e => F ((t, v) :: e)
def appF : (sl : Slots) → Fn sl → Env → PH → Prop
  | [], F, _, h => F h
  | (t, a) :: r, F, e, h => match e.get t with
    | some v => a.app F v fun F' => appF r F' e h
    | none => False

theorem At.app_lam {T : Type} {a : At} {F : Value → T} {v : Value} {G : T → Prop} (h : a.app (a.lam F) v G) : G (F v) := by
  cases a <;> simp only [At.app, At.lam] at h
  case int k =>
    split at h
    · split at h
      · rename_i hd; have := of_decide_eq_true hd; subst this; exact h
      · exact h.elim
    · exact h.elim
  case any => exact h
  all_goals (split at h <;> first | exact h | exact h.elim)

theorem app_abs {sl : Slots} : ∀ {F : Env → PH → Prop} {e : Env} {h : PH}, appF sl (absF sl F) e h → ∃ es, (∀ t v, Env.get es t = some v → e.get t = some v) ∧ F es h := by
  induction sl with
  | nil => exact fun {F e h} hh => ⟨[], fun t v hx => by simp [Env.get] at hx, hh⟩
  | cons p r ih =>
    intro F e h hh
    obtain ⟨t, a⟩ := p
    simp only [appF, absF] at hh
    cases hv : e.get t with
    | none => rw [hv] at hh; exact hh.elim
    | some v =>
      rw [hv] at hh
      dsimp only at hh
      have hh2 := At.app_lam (T := Fn r) (a := a) (F := fun v => absF r fun e => F ((t, v) :: e)) (v := v) (G := fun F' => appF r F' e h) hh
      obtain ⟨es, h1, h2⟩ := ih hh2
      refine ⟨(t, v) :: es, fun s u hs => ?_, h2⟩
      rw [Env.get_cons] at hs
      split at hs
      · rename_i e; subst e; simp at hs; subst hs; exact hv
      · exact h1 s u hs

def xIte {T : Type} (b : Bool) (thn els : T → Prop) (K : T) : Prop := (b = true → thn K) ∧ (b = false → els K)
def xBlk {T : Type} (body : T → Prop) (K : T) : Prop := body K
def xLoopN {T : Type} (bot : T) (B : T → T) : Nat → T
  | 0 => bot
  | n + 1 => B (xLoopN bot B n)
def botF (sl : Slots) : Fn sl := absF sl fun _ _ => False

/-- How code is taken: in which order the operations of a region that draws; what goes on where ways meet. -/
inductive Ann where
  | leaf
  | draw (ord : Items)
  | seq (x y : Ann)
  | cond (sl : Slots) (x y : Ann)
  | block (sl : Slots) (x : Ann)
  | loop (sl : Slots) (x : Ann)

/-- The slots that code writes. -/
def writes : Code → List Nat
  | .region _ ops _ => ops.toList.filterMap (·.dst)
  | .seq x y | .cond _ x y => writes x ++ writes y
  | .block _ c | .loop c => writes c
  | _ => []

/-- Of each operation, in the order of the text. -/
def textItems (n : Nat) : Items := (List.range n).map fun i => (i, Kd.brk)

def drawOk (ops : Array Oper) (ord : Items) : Bool := Region.noSelect ops && Nat.beq ord.length ops.size && ord.all (fun p => Nat.blt p.1 ops.size) && okOrd ops ord ord (Array.replicate ops.size false)

def dCode (P : Program) : Code → Ann → Env → PH → (Env → PH → Prop) → (Nat → Env → PH → Prop) → (Env → PH → Prop) → Prop
  | .skip, _, e, h, k, _, _ => k e h
  | .region _ ops draw, ann, e, h, k, _, _ =>
    match draw with
    | false => dList P ops (fun _ => none) (2 * ops.size + 2) [] (textItems ops.size) e h k
    | true => match ann with
      | .draw ord => (match drawOk ops ord with
        | true => ∃ hs : PH, hs.le h ∧ dList P ops hs (2 * ops.size + 2) [] ord e h k
        | false => False)
      | _ => False
  | .seq x y, ann, e, h, k, ke, kr =>
    match ann with
    | .seq ax ay => dCode P x ax e h (fun e' h' => dCode P y ay e' h' k ke kr) ke kr
    | _ => False
  | .cond c x y, ann, e, h, k, ke, kr =>
    match ann, ev e c with
    | .cond sl ax ay, some (.bool b) => xIte b (fun J => dCode P x ax e h (appF sl J) ke kr) (fun J => dCode P y ay e h (appF sl J) ke kr) (absF sl fun es h' => k (es ++ e.drop (writes x ++ writes y)) h')
    | _, _ => False
  | .block id c, ann, e, h, k, ke, kr =>
    match ann with
    | .block sl a => xBlk (fun J => dCode P c a e h (appF sl J) (fun id' => match Nat.beq id' id with | true => appF sl J | false => ke id') kr) (absF sl fun es h' => k (es ++ e.drop (writes c)) h')
    | _ => False
  | .loop c, ann, e, h, _, ke, kr =>
    match ann with
    | .loop sl a => ∃ n, appF sl (xLoopN (botF sl) (fun J => absF sl fun es h' => dCode P c a (es ++ e.drop (writes c)) h' (appF sl J) ke kr) n) e h
    | _ => False
  | .exit id, _, e, h, _, ke, _ => ke id e h
  | .ret, _, e, h, _, _, kr => kr e h
  | _, _, _, _, _, _, _ => False

def Post (W : World) (D : List Nat) (a0 : Act) (k : Env → PH → Prop) (ke : Nat → Env → PH → Prop) (kr : Env → PH → Prop) : Exit → Act → World → Prop
  | .normal, a, w => Keep D a0 a ∧ ∃ e h, Fits e a ∧ St W h w ∧ k e h
  | .exit id, a, w => Keep D a0 a ∧ ∃ e h, Fits e a ∧ St W h w ∧ ke id e h
  | .ret, a, w => a.defers = a0.defers ∧ ∃ e h, Fits e a ∧ St W h w ∧ kr e h
  | _, _, _ => False

/-- All slots that code writes lie below 'm'. -/
def codeIn (m : Nat) (c : Code) : Bool := (writes c).all fun t => Nat.blt t m

theorem codeIn_sub {m : Nat} {l l' : List Nat} (h : (l.all fun t => Nat.blt t m) = true) (hs : ∀ t ∈ l', t ∈ l) : (l'.all fun t => Nat.blt t m) = true :=
  List.all_eq_true.2 fun t ht => List.all_eq_true.1 h t (hs t ht)

theorem dstsOf_sub {ops : Array Oper} {l : Items} : ∀ t, t ∈ dstsOf ops l → t ∈ ops.toList.filterMap (·.dst) := by
  intro t ht
  unfold dstsOf at ht
  obtain ⟨p, hp, hd⟩ := List.mem_filterMap.1 ht
  cases ho : ops[p.1]? with
  | none => rw [ho] at hd; cases hd
  | some o =>
    rw [ho] at hd
    exact List.mem_filterMap.2 ⟨o, by rw [Array.mem_toList_iff]; exact Array.mem_of_getElem? ho, hd⟩

theorem fits_join {e e' es : Env} {a a' : Act} {D : List Nat} (f : Fits e a) (f' : Fits e' a') (k : Keep D a a') (hs : ∀ t v, Env.get es t = some v → e'.get t = some v) : Fits (es ++ e.drop D) a' := by
  refine ⟨?_⟩
  have hd := (f.drop k).g
  clear f
  induction es with
  | nil => exact hd
  | cons p r ih =>
    intro t v h
    obtain ⟨s, u⟩ := p
    simp only [List.cons_append, Env.get_cons] at h
    split at h
    · rename_i e; subst e
      refine f'.g s v (hs s v ?_)
      rw [Env.get_cons, if_pos rfl]; exact h
    · -- what stands behind
      have : ∀ (r : Env), (∀ t v, s ≠ t → Env.get r t = some v → e'.get t = some v) → s ≠ t → Env.get (r ++ e.drop D) t = some v → a'.tmps[t]? = some v := by
        intro r hr hst hg
        induction r with
        | nil => exact hd t v hg
        | cons q r ih =>
          obtain ⟨x, y⟩ := q
          simp only [List.cons_append, Env.get_cons] at hg
          split at hg
          · rename_i e2; subst e2
            exact f'.g x v (hr x v hst (by rw [Env.get_cons, if_pos rfl]; exact hg))
          · rename_i hxt
            by_cases hx : ∃ t' v', Env.get r t' = some v' ∧ t' = x
            · -- a slot that stands twice: what is asked for is another one
              refine (fun (h2 : ∀ r' : Env, Env.get (r' ++ e.drop D) t = some v → (∀ v, Env.get r' t = some v → e'.get t = some v) → a'.tmps[t]? = some v) => h2 r hg fun v hv => hr t v hst (by rw [Env.get_cons, if_neg hxt]; exact hv)) ?_
              intro r' hg' hr'
              clear hg ih hr hx
              induction r' with
              | nil => exact hd t v hg'
              | cons q r' ih =>
                obtain ⟨x', y'⟩ := q
                simp only [List.cons_append, Env.get_cons] at hg'
                split at hg'
                · rename_i e3; subst e3; exact f'.g _ v (hr' v (by rw [Env.get_cons, if_pos rfl]; exact hg'))
                · rename_i e3; exact ih hg' (fun v hv => hr' v (by rw [Env.get_cons, if_neg e3]; exact hv))
            · refine ih (fun t' v' hst' hg2 => ?_) hg
              have hne : x ≠ t' := fun e3 => hx ⟨t', v', hg2, e3.symm⟩
              exact hr t' v' hst' (by rw [Env.get_cons, if_neg hne]; exact hg2)
      rename_i hst
      exact this r (fun t' v' hst' hg => hs t' v' (by rw [Env.get_cons, if_neg hst']; exact hg)) hst h

theorem dCode_sound {P : Program} (hmix : P.follows .mixedOrders = true) {W : World} {m : Nat} : ∀ (c : Code) (ann : Ann) (e : Env) (h : PH) (k : Env → PH → Prop) (ke : Nat → Env → PH → Prop) (kr : Env → PH → Prop) (a : Act) (w : World),
    dCode P c ann e h k ke kr → codeIn m c = true → Fits e a → St W h w → m ≤ a.tmps.size → c.wp P (Post W (writes c) a k ke kr) a w := by
  intro c
  induction c with
  | skip => exact fun ann e h k ke kr a w hd _ hf st _ => wp_skip ⟨Keep.refl _ _, e, h, hf, st, hd⟩
  | region id ops draw =>
    intro ann e h k ke kr a w hd hin hf st hsz
    have hm : InB ops m := by
      intro i o t ho ht
      have := List.all_eq_true.1 hin t (List.mem_filterMap.2 ⟨o, by rw [Array.mem_toList_iff]; exact Array.mem_of_getElem? ho, ht⟩)
      exact Nat.le_of_ble_eq_true this
    have fin : ∀ (hs : PH) (l : Items) (w : World), St W h w → dList P ops hs (2 * ops.size + 2) [] l e h k → seqH P ops (St W hs) (Post W (writes (.region id ops draw)) a k ke kr) l (fun a' w' => Post W (writes (.region id ops draw)) a k ke kr .normal a' w') a w := by
      intro hs l w st hd
      refine dList_sound hm _ [] l e h k a w _ hd hf st hsz (fun g hg => by cases hg) ?_
      intro e' h' a' w' hf' st' hk hK
      exact ⟨hk.mono dstsOf_sub, e', h', hf', st', hK⟩
    cases draw with
    | false =>
      have := fin _ _ w st hd
      exact wp_region (seqH_text _ _ _ this)
    | true =>
      unfold dCode at hd
      simp only [] at hd
      split at hd
      · rename_i ord
        split at hd
        · rename_i hok
          obtain ⟨hs, hle, hd⟩ := hd
          simp only [drawOk, Bool.and_eq_true] at hok
          have st' := st.drawn (w.drawn + 1)
          exact region_any hmix hok.1.1.1 (fun c a w hp => hp) (Nat.eq_of_beq_eq_true hok.1.1.2) hok.2 (st'.le hle) (fin hs ord _ st' hd)
        · exact hd.elim
      · exact hd.elim
  | seq x y ihx ihy =>
    intro ann e h k ke kr a w hd hin hf st hsz
    unfold dCode at hd
    split at hd
    · rename_i ax ay
      have hx : codeIn m x = true := codeIn_sub hin fun t ht => List.mem_append_left _ ht
      have hy : codeIn m y = true := codeIn_sub hin fun t ht => List.mem_append_right _ ht
      refine wp_seq (wp_mono (ihx ax e h _ ke kr a w hd hx hf st hsz) ?_)
      intro ex a' w' hp
      cases ex with
      | normal =>
        obtain ⟨hk, e', h', hf', st', hd'⟩ := hp
        refine wp_mono (ihy ay e' h' k ke kr a' w' hd' hy hf' st' (by rw [hk.1]; exact hsz)) ?_
        intro ex a'' w'' hp
        have up : ∀ b, Keep (writes y) a' b → Keep (writes (.seq x y)) a b := fun b hb => (hk.mono fun t ht => List.mem_append_left _ ht).trans (hb.mono fun t ht => List.mem_append_right _ ht)
        cases ex with
        | normal => exact ⟨up _ hp.1, hp.2⟩
        | exit id => exact ⟨up _ hp.1, hp.2⟩
        | ret => exact ⟨hp.1.trans hk.3, hp.2⟩
        | goto l => exact hp
        | panic ch => exact hp
        | outgrown => exact hp
      | exit id => exact ⟨hp.1.mono fun t ht => List.mem_append_left _ ht, hp.2⟩
      | ret => exact hp
      | goto l => exact hp
      | panic ch => exact hp
      | outgrown => exact hp
    · exact hd.elim
  | cond c x y ihx ihy =>
    intro ann e h k ke kr a w hd hin hf st hsz
    unfold dCode at hd
    split at hd
    · rename_i sl ax ay b hb
      have hx : codeIn m x = true := codeIn_sub hin fun t ht => List.mem_append_left _ ht
      have hy : codeIn m y = true := codeIn_sub hin fun t ht => List.mem_append_right _ ht
      refine wp_cond_split (hf.ev hb) ?_ ?_
      · intro ht
        refine wp_mono (ihx ax e h _ ke kr a w (hd.1 ht) hx hf st hsz) ?_
        intro ex a' w' hp
        cases ex with
        | normal =>
          obtain ⟨hk, e', h', hf', st', hd'⟩ := hp
          obtain ⟨es, h1, h2⟩ := app_abs hd'
          have hk' : Keep (writes x ++ writes y) a a' := hk.mono fun t ht => List.mem_append_left _ ht
          exact ⟨hk', _, h', fits_join hf hf' hk' h1, st', h2⟩
        | exit id => exact ⟨hp.1.mono fun t ht => List.mem_append_left _ ht, hp.2⟩
        | ret => exact hp
        | goto l => exact hp
        | panic ch => exact hp
        | outgrown => exact hp
      · intro ht
        refine wp_mono (ihy ay e h _ ke kr a w (hd.2 ht) hy hf st hsz) ?_
        intro ex a' w' hp
        cases ex with
        | normal =>
          obtain ⟨hk, e', h', hf', st', hd'⟩ := hp
          obtain ⟨es, h1, h2⟩ := app_abs hd'
          have hk' : Keep (writes x ++ writes y) a a' := hk.mono fun t ht => List.mem_append_right _ ht
          exact ⟨hk', _, h', fits_join hf hf' hk' h1, st', h2⟩
        | exit id => exact ⟨hp.1.mono fun t ht => List.mem_append_right _ ht, hp.2⟩
        | ret => exact hp
        | goto l => exact hp
        | panic ch => exact hp
        | outgrown => exact hp
    · exact hd.elim
  | block id c ih =>
    intro ann e h k ke kr a w hd hin hf st hsz
    unfold dCode at hd
    split at hd
    · rename_i sl ax
      refine wp_block (wp_mono (ih ax e h _ _ kr a w hd hin hf st hsz) ?_)
      have fin : ∀ a' w' e' h', Keep (writes c) a a' → Fits e' a' → St W h' w' → appF sl (absF sl fun es h' => k (es ++ e.drop (writes c)) h') e' h' → Post W (writes (.block id c)) a k ke kr .normal a' w' := by
        intro a' w' e' h' hk hf' st' hd'
        obtain ⟨es, h1, h2⟩ := app_abs hd'
        exact ⟨hk, _, h', fits_join hf hf' hk h1, st', h2⟩
      intro ex a' w' hp
      cases ex with
      | normal =>
        obtain ⟨hk, e', h', hf', st', hd'⟩ := hp
        exact fin a' w' e' h' hk hf' st' hd'
      | exit id' =>
        obtain ⟨hk, e', h', hf', st', hd'⟩ := hp
        show if id' = id then _ else _
        cases hb : Nat.beq id' id with
        | true =>
          rw [hb] at hd'
          rw [if_pos (Nat.eq_of_beq_eq_true hb)]
          exact fin a' w' e' h' hk hf' st' hd'
        | false =>
          rw [hb] at hd'
          rw [if_neg (fun e => by subst e; simp at hb)]
          exact ⟨hk, e', h', hf', st', hd'⟩
      | ret => exact hp
      | goto l => exact hp
      | panic ch => exact hp
      | outgrown => exact hp
    · exact hd.elim
  | loop c ih =>
    intro ann e h k ke kr a w hd hin hf st hsz
    unfold dCode at hd
    split at hd
    · rename_i sl ax
      obtain ⟨n, hd⟩ := hd
      refine wp_loop_rounds n ?_
      have claim : ∀ n a' w' e' h', appF sl (xLoopN (botF sl) (fun J => absF sl fun es h' => dCode P c ax (es ++ e.drop (writes c)) h' (appF sl J) ke kr) n) e' h' → Keep (writes c) a a' → Fits e' a' → St W h' w' → Code.rounds P c (Post W (writes (.loop c)) a k ke kr) n a' w' := by
        intro n
        induction n with
        | zero =>
          intro a' w' e' h' hd' _ _ _
          obtain ⟨es, _, h2⟩ := app_abs (F := fun _ _ => False) hd'
          exact h2
        | succ n ihn =>
          intro a' w' e' h' hd' hk hf' st'
          obtain ⟨es, h1, h2⟩ := app_abs (F := fun es h' => dCode P c ax (es ++ e.drop (writes c)) h' (appF sl (xLoopN (botF sl) _ n)) ke kr) hd'
          rw [rounds_succ]
          refine wp_mono (ih ax _ h' _ ke kr a' w' h2 hin (fits_join hf hf' hk h1) st' (by rw [hk.1]; exact hsz)) ?_
          intro ex a'' w'' hp
          cases ex with
          | normal =>
            obtain ⟨hk', e'', h'', hf'', st'', hd''⟩ := hp
            exact ihn a'' w'' e'' h'' hd'' (hk.trans hk') hf'' st''
          | exit id => exact ⟨hk.trans hp.1, hp.2⟩
          | ret => exact ⟨hp.1.trans hk.3, hp.2⟩
          | goto l => exact hp
          | panic ch => exact hp
          | outgrown => exact hp
      exact claim n a w e h hd (Keep.refl _ _) hf st
    · exact hd.elim
  | exit id => exact fun ann e h k ke kr a w hd _ hf st _ => wp_exit ⟨Keep.refl _ _, e, h, hf, st, hd⟩
  | ret => exact fun ann e h k ke kr a w hd _ hf st _ => wp_ret ⟨rfl, e, h, hf, st, hd⟩
  | _ => intro ann e h k ke kr a w hd; exact hd.elim

/-! ### Functions -/
def argEnv : List Value → Nat → Env
  | [], _ => []
  | v :: vs, i => (i, v) :: argEnv vs (i + 1)

def dRets (P : Program) : List ResultVar → Env → PH → (List Value → Prop) → Prop
  | [], _, _, K => K []
  | .tmp t :: r, e, h, K => match e.get t with
    | some v => dRets P r e h fun vs => K (v :: vs)
    | none => False
  | .cell a t :: r, e, h, K => match P.underlying t, e.get a with
    | some _, some (.pointer (some p)) => oLoad (leafOf P t) h p fun v => dRets P r e h fun vs => K (v :: vs)
    | _, _ => False

def retVal : List Value → Value
  | [v] => v
  | vs => .tuple vs.toArray

/-- THE FUNCTION's READING. -/
def dFn (P : Program) (fn : Func) (ann : Ann) (args : Array Value) (h : PH) (Q : Value → PH → Prop) : Prop :=
  match fn.body with
  | some c => dCode P c ann (argEnv args.toList 0) h (fun e h' => dRets P fn.results.toList e h' fun vs => Q (retVal vs) h') (fun _ _ _ => False) (fun e h' => dRets P fn.results.toList e h' fun vs => Q (retVal vs) h')
  | none => False

theorem argEnv_get : ∀ (vs : List Value) (i t : Nat) (v : Value), (argEnv vs i).get t = some v → i ≤ t ∧ vs[t - i]? = some v
  | [], i, t, v, h => by simp [argEnv, Env.get] at h
  | x :: vs, i, t, v, h => by
    simp only [argEnv, Env.get_cons] at h
    split at h
    · rename_i e; subst e; simp at h; subst h; exact ⟨Nat.le_refl _, by simp⟩
    · obtain ⟨h1, h2⟩ := argEnv_get vs (i + 1) t v h
      refine ⟨by omega, ?_⟩
      rw [show t - i = (t - (i + 1)) + 1 from by omega]; simpa using h2

/-- One result. -/
def resOne (tmps : Array Value) : ResultVar → Sem Value
  | .tmp t => pure (tmps.getD t undef)
  | .cell a t => do loadVar t (← asAddr (tmps.getD a undef))
theorem results_eq (fn : Func) (tmps : Array Value) : results fn tmps = (do
    let vs ← fn.results.mapM (resOne tmps)
    pure (if h : vs.size = 1 then vs[0] else .tuple vs)) := rfl

theorem dRets_sound {P : Program} {W : World} {a : Act} {w : World} {e : Env} {h : PH} (hf : Fits e a) (st : St W h w) : ∀ (l : List ResultVar) (K : List Value → Prop), dRets P l e h K →
    ∃ vs, K vs ∧ (l.mapM (resOne a.tmps)).run P w = .ok vs w
  | [], K, hd => ⟨[], hd, rfl⟩
  | .tmp t :: r, K, hd => by
    simp only [dRets] at hd
    cases hv : e.get t with
    | none => rw [hv] at hd; exact hd.elim
    | some v =>
      rw [hv] at hd
      obtain ⟨vs, hK, hr⟩ := dRets_sound hf st r _ hd
      refine ⟨v :: vs, hK, ?_⟩
      rw [List.mapM_cons, Sem.run_bind]
      have : a.tmps.getD t undef = v := getD_of (hf.g t v hv)
      simp only [resOne, this]
      show Result.andThen (Result.ok v w) _ = _
      rw [Result.andThen_ok, Sem.run_bind, hr]
      rfl
  | .cell p t :: r, K, hd => by
    simp only [dRets] at hd
    split at hd
    · rename_i d q hu hv
      obtain ⟨v, hd', hrd⟩ := oLoad_reads hd (by rw [hu]; rfl)
      obtain ⟨vs, hK, hr⟩ := dRets_sound hf st r _ hd'
      refine ⟨v :: vs, hK, ?_⟩
      rw [List.mapM_cons, Sem.run_bind]
      have : a.tmps.getD p undef = .pointer (some q) := getD_of (hf.g p _ hv)
      simp only [resOne, this]
      have h1 : (do loadVar t (← asAddr (.pointer (some q))) : Sem Value).run P w = .ok v w := by
        show (asAddr (.pointer (some q)) >>= loadVar t).run P w = _
        exact ((Reads.pure q).bind hrd) W w st
      rw [h1, Result.andThen_ok, Sem.run_bind, hr]
      rfl
    · exact hd.elim

/-- The function's own bounds: what it writes lies in its frame. -/
def fnOk (fn : Func) (n : Nat) : Bool := match fn.body with
  | some c => codeIn fn.ntmps c && Nat.ble n fn.ntmps
  | none => false

theorem spec_of {P : Program} {f : FuncId} {fn : Func} {ann : Ann} {args : Array Value} {h : PH} {Q : Value → PH → Prop} (hf : P.funcs[f]? = some fn) (hmix : P.follows .mixedOrders = true) (hok : fnOk fn args.size = true)
    (hd : dFn P fn ann args h Q) : Meets P f args h Q := by
  intro W w st
  unfold dFn at hd
  unfold fnOk at hok
  cases hb : fn.body with
  | none => rw [hb] at hd; exact hd.elim
  | some c =>
    rw [hb] at hd hok
    simp only [Bool.and_eq_true] at hok
    obtain ⟨hin, hle⟩ := hok
    have hle := Nat.le_of_ble_eq_true hle
    refine calls_of_wp hf hb ?_
    have hsz : (args ++ Array.replicate (fn.ntmps - args.size) undef).size = fn.ntmps := by simp; omega
    have hfit : Fits (argEnv args.toList 0) { tmps := args ++ Array.replicate (fn.ntmps - args.size) undef, defers := [] } := by
      refine ⟨fun t v hg => ?_⟩
      obtain ⟨_, hv⟩ := argEnv_get _ _ _ _ hg
      simp only [Nat.sub_zero] at hv
      have hv' : args[t]? = some v := by simpa using hv
      have hlt : t < args.size := (Array.getElem?_eq_some_iff.1 hv').1
      simp only [Array.getElem?_append, hlt, if_true]
      exact hv'
    refine wp_mono (dCode_sound hmix c ann _ h _ _ _ _ w hd hin hfit st (by rw [hsz]; exact Nat.le_refl _)) ?_
    have fin : ∀ (a : Act) (w' : World) (e : Env) (h' : PH), a.defers = [] → Fits e a → St W h' w' → dRets P fn.results.toList e h' (fun vs => Q (retVal vs) h') →
        a.defers = [] ∧ ∃ v, (results fn a.tmps).run P w' = .ok v w' ∧ ∃ v_1 h'', Ending.returned v = .returned v_1 ∧ St W h'' w' ∧ Q v_1 h'' := by
      intro a w' e h' hdf hf' st' hr
      obtain ⟨vs, hQ, hrun⟩ := dRets_sound hf' st' _ _ hr
      refine ⟨hdf, retVal vs, ?_, retVal vs, h', rfl, st', hQ⟩
      rw [results_eq]
      have hl : fn.results = fn.results.toList.toArray := by simp
      rw [hl, List.mapM_toArray, Sem.run_bind, Sem.run_map, hrun]
      simp only [Result.andThen_ok]
      unfold retVal
      cases vs with
      | nil => rfl
      | cons v r =>
        cases r with
        | nil => rfl
        | cons u r =>
          simp only [List.size_toArray, List.length_cons]
          rw [dif_neg (by omega)]
          rfl
    intro ex a w' hp
    cases ex with
    | normal => obtain ⟨hk, e, h', hf', st', hr⟩ := hp; exact fin a w' e h' hk.3 hf' st' hr
    | ret => obtain ⟨hk, e, h', hf', st', hr⟩ := hp; exact fin a w' e h' hk hf' st' hr
    | exit id => exact hp.2.elim fun _ ⟨_, _, _, hx⟩ => hx
    | goto l => exact (show False from hp).elim
    | panic ch => exact (show False from hp).elim
    | outgrown => exact (show False from hp).elim

end Go.Sx
