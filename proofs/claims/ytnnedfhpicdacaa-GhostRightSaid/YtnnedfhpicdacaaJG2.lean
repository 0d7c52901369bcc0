/-
  SX, part 7: code, loops, functions: a function's reading over what is known of memory, and that it is a contract.
-/
import Derived.Test.YtnnedfhpicdacaaRows
import Derived.Test.YtnnedfhpicdacaaJG1

namespace Go.Sx
open Go

def At.lam {T : Type} : (a : At) → (Value → T) → a.fn T
  | .int k, F => fun n => F (.int k n)
  | .bool, F => fun n => F (.bool n)
  | .str, F => fun n => F (.string n)
  | .ptr, F => fun n => F (.pointer n)
  | .slice, F => fun a l m => F (.slice a l m)
  | .map, F => fun n => F (.map n)
  | .any, F => fun n => F n
def At.app {T : Type} : (a : At) → a.fn T → Value → (T → Prop) → Prop
  | .int k, F, v, G => match v with
    | .int k' n => (match decide (k = k') with | true => G (F n) | false => False)
    | _ => False
  | .bool, F, v, G => match v with
    | .bool n => G (F n)
    | _ => False
  | .str, F, v, G => match v with
    | .string n => G (F n)
    | _ => False
  | .ptr, F, v, G => match v with
    | .pointer n => G (F n)
    | _ => False
  | .slice, F, v, G => match v with
    | .slice a l m => G (F a l m)
    | _ => False
  | .map, F, v, G => match v with
    | .map n => G (F n)
    | _ => False
  | .any, F, v, G => G (F v)

/-- What goes on from slots of some shapes. -/
abbrev Slots := List (Nat × At)
def Fn : Slots → Type
  | [] => PH → Prop
  | (_, a) :: r => a.fn (Fn r)
def absF : (sl : Slots) → (Env → PH → Prop) → Fn sl
  | [], F => F []
  | (t, a) :: r, F => a.lam fun v => absF r fun e => F ((t, v) :: e)
def appF : (sl : Slots) → Fn sl → Env → PH → Prop
  | [], F, _, h => F h
  | (t, a) :: r, F, e, h => match e.get t with
    | some v => a.app F v fun F' => appF r F' e h
    | none => False

theorem At.app_lam {T : Type} {a : At} {F : Value → T} {v : Value} {G : T → Prop} (h : a.app (a.lam F) v G) : G (F v) := by
  cases a <;> simp only [At.app, At.lam] at h
  case int k =>
    split at h
    · split at h
      · rename_i hd; have := of_decide_eq_true hd; subst this; exact h
      · exact h.elim
    · exact h.elim
  case any => exact h
  all_goals (split at h <;> first | exact h | exact h.elim)

theorem app_abs {sl : Slots} : ∀ {F : Env → PH → Prop} {e : Env} {h : PH}, appF sl (absF sl F) e h → ∃ es, (∀ t v, Env.get es t = some v → e.get t = some v) ∧ F es h := by
  induction sl with
  | nil => exact fun {F e h} hh => ⟨[], fun t v hx => by simp [Env.get] at hx, hh⟩
  | cons p r ih =>
    intro F e h hh
    obtain ⟨t, a⟩ := p
    simp only [appF, absF] at hh
    cases hv : e.get t with
    | none => rw [hv] at hh; exact hh.elim
    | some v =>
      rw [hv] at hh
      dsimp only at hh
      have hh2 := At.app_lam (T := Fn r) (a := a) (F := fun v => absF r fun e => F ((t, v) :: e)) (v := v) (G := fun F' => appF r F' e h) hh
      obtain ⟨es, h1, h2⟩ := ih hh2
      refine ⟨(t, v) :: es, fun s u hs => ?_, h2⟩
      rw [Env.get_cons] at hs
      split at hs
      · rename_i e; subst e; simp at hs; subst hs; exact hv
      · exact h1 s u hs

def xIte {T : Type} (b : Bool) (thn els : T → Prop) (K : T) : Prop := (b = true → thn K) ∧ (b = false → els K)
def xBlk {T : Type} (body : T → Prop) (K : T) : Prop := body K
def xLoopN {T : Type} (bot : T) (B : T → T) : Nat → T
  | 0 => bot
  | n + 1 => B (xLoopN bot B n)
def botF (sl : Slots) : Fn sl := absF sl fun _ _ => False

/-- How code is taken: in which order the operations of a region that draws; what goes on where ways meet. -/
inductive Ann where
  | leaf
  | draw (ord : Items)
  | draw2 (pre x y : Items)
  | seq (x y : Ann)
  | cond (sl : Slots) (x y : Ann)
  | block (sl : Slots) (x : Ann)
  | loop (sl : Slots) (x : Ann)

/-- The slots that code writes. -/
def writes : Code → List Nat
  | .region _ ops _ => ops.toList.filterMap (·.dst)
  | .seq x y | .cond _ x y => writes x ++ writes y
  | .block _ c | .loop c => writes c
  | _ => []

/-- Of each operation, in the order of the text. -/
def textItems (n : Nat) : Items := (List.range n).map fun i => (i, Kd.brk)

def drawOk (ops : Array Oper) (ord : Items) : Bool := Region.noSelect ops && Nat.beq ord.length ops.size && ord.all (fun p => Nat.blt p.1 ops.size) && okOrd ops ord ord (Array.replicate ops.size false)

def dCode (P : Program) : Code → Ann → Env → PH → (Env → PH → Prop) → (Nat → Env → PH → Prop) → (Env → PH → Prop) → Prop
  | .skip, _, e, h, k, _, _ => k e h
  | .region _ ops draw, ann, e, h, k, _, _ =>
    match draw with
    | false => dList P ops (fun _ => none) (2 * ops.size + 2) [] (textItems ops.size) e h k
    | true => match ann with
      | .draw ord => (match drawOk ops ord with
        | true => ∃ hs : PH, hs.le h ∧ dList P ops hs (2 * ops.size + 2) [] ord e h k
        | false => False)
      | .draw2 pre x y => (match Region.noSelect ops && ok2 ops pre x y with
        | true => ∃ hs : PH, hs.le h ∧ dList P ops hs (2 * ops.size + 2) [] pre e h fun e' h' => dList P ops hs (2 * ops.size + 2) [] x e' h' k ∧ dList P ops hs (2 * ops.size + 2) [] y e' h' k
        | false => False)
      | _ => False
  | .seq x y, ann, e, h, k, ke, kr =>
    match ann with
    | .seq ax ay => dCode P x ax e h (fun e' h' => dCode P y ay e' h' k ke kr) ke kr
    | _ => False
  | .cond c x y, ann, e, h, k, ke, kr =>
    match ann, ev e c with
    | .cond sl ax ay, some (.bool b) => xIte b (fun J => dCode P x ax e h (appF sl J) ke kr) (fun J => dCode P y ay e h (appF sl J) ke kr) (absF sl fun es h' => k (es ++ e.drop (writes x ++ writes y)) h')
    | _, _ => False
  | .block id c, ann, e, h, k, ke, kr =>
    match ann with
    | .block sl a => xBlk (fun J => dCode P c a e h (appF sl J) (fun id' => match Nat.beq id' id with | true => appF sl J | false => ke id') kr) (absF sl fun es h' => k (es ++ e.drop (writes c)) h')
    | _ => False
  | .loop c, ann, e, h, _, ke, kr =>
    match ann with
    | .loop sl a => ∃ n, appF sl (xLoopN (botF sl) (fun J => absF sl fun es h' => dCode P c a (es ++ e.drop (writes c)) h' (appF sl J) ke kr) n) e h
    | _ => False
  | .exit id, _, e, h, _, ke, _ => ke id e h
  | .ret, _, e, h, _, _, kr => kr e h
  | _, _, _, _, _, _, _ => False

def Post (W : World) (D : List Nat) (a0 : Act) (k : Env → PH → Prop) (ke : Nat → Env → PH → Prop) (kr : Env → PH → Prop) : Exit → Act → World → Prop
  | .normal, a, w => Keep D a0 a ∧ ∃ e h, Fits e a ∧ St W h w ∧ k e h
  | .exit id, a, w => Keep D a0 a ∧ ∃ e h, Fits e a ∧ St W h w ∧ ke id e h
  | .ret, a, w => a.defers = a0.defers ∧ ∃ e h, Fits e a ∧ St W h w ∧ kr e h
  | _, _, _ => False

/-- All slots that code writes lie below 'm'. -/
def codeIn (m : Nat) (c : Code) : Bool := (writes c).all fun t => Nat.blt t m

theorem codeIn_sub {m : Nat} {l l' : List Nat} (h : (l.all fun t => Nat.blt t m) = true) (hs : ∀ t ∈ l', t ∈ l) : (l'.all fun t => Nat.blt t m) = true :=
  List.all_eq_true.2 fun t ht => List.all_eq_true.1 h t (hs t ht)

theorem dstsOf_sub {ops : Array Oper} {l : Items} : ∀ t, t ∈ dstsOf ops l → t ∈ ops.toList.filterMap (·.dst) := by
  intro t ht
  unfold dstsOf at ht
  obtain ⟨p, hp, hd⟩ := List.mem_filterMap.1 ht
  cases ho : ops[p.1]? with
  | none => rw [ho] at hd; cases hd
  | some o =>
    rw [ho] at hd
    exact List.mem_filterMap.2 ⟨o, by rw [Array.mem_toList_iff]; exact Array.mem_of_getElem? ho, hd⟩

theorem fits_join {e e' es : Env} {a a' : Act} {D : List Nat} (f : Fits e a) (f' : Fits e' a') (k : Keep D a a') (hs : ∀ t v, Env.get es t = some v → e'.get t = some v) : Fits (es ++ e.drop D) a' := by
  refine ⟨?_⟩
  have hd := (f.drop k).g
  clear f
  induction es with
  | nil => exact hd
  | cons p r ih =>
    intro t v h
    obtain ⟨s, u⟩ := p
    simp only [List.cons_append, Env.get_cons] at h
    split at h
    · rename_i e; subst e
      refine f'.g s v (hs s v ?_)
      rw [Env.get_cons, if_pos rfl]; exact h
    · -- what stands behind
      have : ∀ (r : Env), (∀ t v, s ≠ t → Env.get r t = some v → e'.get t = some v) → s ≠ t → Env.get (r ++ e.drop D) t = some v → a'.tmps[t]? = some v := by
        intro r hr hst hg
        induction r with
        | nil => exact hd t v hg
        | cons q r ih =>
          obtain ⟨x, y⟩ := q
          simp only [List.cons_append, Env.get_cons] at hg
          split at hg
          · rename_i e2; subst e2
            exact f'.g x v (hr x v hst (by rw [Env.get_cons, if_pos rfl]; exact hg))
          · rename_i hxt
            by_cases hx : ∃ t' v', Env.get r t' = some v' ∧ t' = x
            · -- a slot that stands twice: what is asked for is another one
              refine (fun (h2 : ∀ r' : Env, Env.get (r' ++ e.drop D) t = some v → (∀ v, Env.get r' t = some v → e'.get t = some v) → a'.tmps[t]? = some v) => h2 r hg fun v hv => hr t v hst (by rw [Env.get_cons, if_neg hxt]; exact hv)) ?_
              intro r' hg' hr'
              clear hg ih hr hx
              induction r' with
              | nil => exact hd t v hg'
              | cons q r' ih =>
                obtain ⟨x', y'⟩ := q
                simp only [List.cons_append, Env.get_cons] at hg'
                split at hg'
                · rename_i e3; subst e3; exact f'.g _ v (hr' v (by rw [Env.get_cons, if_pos rfl]; exact hg'))
                · rename_i e3; exact ih hg' (fun v hv => hr' v (by rw [Env.get_cons, if_neg e3]; exact hv))
            · refine ih (fun t' v' hst' hg2 => ?_) hg
              have hne : x ≠ t' := fun e3 => hx ⟨t', v', hg2, e3.symm⟩
              exact hr t' v' hst' (by rw [Env.get_cons, if_neg hne]; exact hg2)
      rename_i hst
      exact this r (fun t' v' hst' hg => hs t' v' (by rw [Env.get_cons, if_neg hst']; exact hg)) hst h

theorem dCode_sound {P : Program} (hmix : P.follows .mixedOrders = true) {W : World} {m : Nat} : ∀ (c : Code) (ann : Ann) (e : Env) (h : PH) (k : Env → PH → Prop) (ke : Nat → Env → PH → Prop) (kr : Env → PH → Prop) (a : Act) (w : World),
    dCode P c ann e h k ke kr → codeIn m c = true → Fits e a → St W h w → m ≤ a.tmps.size → c.wp P (Post W (writes c) a k ke kr) a w := by
  intro c
  induction c with
  | skip => exact fun ann e h k ke kr a w hd _ hf st _ => wp_skip ⟨Keep.refl _ _, e, h, hf, st, hd⟩
  | region id ops draw =>
    intro ann e h k ke kr a w hd hin hf st hsz
    have hm : InB ops m := by
      intro i o t ho ht
      have := List.all_eq_true.1 hin t (List.mem_filterMap.2 ⟨o, by rw [Array.mem_toList_iff]; exact Array.mem_of_getElem? ho, ht⟩)
      exact Nat.le_of_ble_eq_true this
    have fin : ∀ (hs : PH) (l : Items) (w : World), St W h w → dList P ops hs (2 * ops.size + 2) [] l e h k → seqH P ops (St W hs) (Post W (writes (.region id ops draw)) a k ke kr) l (fun a' w' => Post W (writes (.region id ops draw)) a k ke kr .normal a' w') a w := by
      intro hs l w st hd
      refine dList_sound hm _ [] l e h k a w _ hd hf st hsz (fun g hg => by cases hg) ?_
      intro e' h' a' w' hf' st' hk hK
      exact ⟨hk.mono dstsOf_sub, e', h', hf', st', hK⟩
    cases draw with
    | false =>
      have := fin _ _ w st hd
      exact wp_region (seqH_text _ _ _ this)
    | true =>
      unfold dCode at hd
      simp only [] at hd
      split at hd
      · rename_i ord
        split at hd
        · rename_i hok
          obtain ⟨hs, hle, hd⟩ := hd
          simp only [drawOk, Bool.and_eq_true] at hok
          have st' := st.drawn (w.drawn + 1)
          exact region_any hmix hok.1.1.1 (fun c a w hp => hp) (Nat.eq_of_beq_eq_true hok.1.1.2) hok.2 (st'.le hle) (fin hs ord _ st' hd)
        · exact hd.elim
      · rename_i pre x y
        split at hd
        · rename_i hok
          obtain ⟨hs, hle, hd⟩ := hd
          simp only [Bool.and_eq_true] at hok
          have st' := st.drawn (w.drawn + 1)
          refine region_any2 hmix hok.1 (fun c a w hp => hp) hok.2 (st'.le hle) ?_
          refine dList_sound hm _ [] pre e h _ a _ _ hd hf st' hsz (fun g hg => by cases hg) ?_
          intro e' h' a' w' hf' st'' hk hK
          have both : ∀ l, dList P ops hs (2 * ops.size + 2) [] l e' h' k → seqH P ops (St W hs) (Post W (writes (.region id ops true)) a k ke kr) l (fun a' w' => Post W (writes (.region id ops true)) a k ke kr .normal a' w') a' w' := by
            intro l hd
            refine dList_sound hm _ [] l e' h' k a' w' _ hd hf' st'' (by rw [hk.1]; exact hsz) (fun g hg => by cases hg) ?_
            intro e2 h2 a2 w2 hf2 st2 hk2 hK2
            exact ⟨(hk.mono dstsOf_sub).trans (hk2.mono dstsOf_sub), e2, h2, hf2, st2, hK2⟩
          exact ⟨both x hK.1, both y hK.2⟩
        · exact hd.elim
      · exact hd.elim
  | seq x y ihx ihy =>
    intro ann e h k ke kr a w hd hin hf st hsz
    unfold dCode at hd
    split at hd
    · rename_i ax ay
      have hx : codeIn m x = true := codeIn_sub hin fun t ht => List.mem_append_left _ ht
      have hy : codeIn m y = true := codeIn_sub hin fun t ht => List.mem_append_right _ ht
      refine wp_seq (wp_mono (ihx ax e h _ ke kr a w hd hx hf st hsz) ?_)
      intro ex a' w' hp
      cases ex with
      | normal =>
        obtain ⟨hk, e', h', hf', st', hd'⟩ := hp
        refine wp_mono (ihy ay e' h' k ke kr a' w' hd' hy hf' st' (by rw [hk.1]; exact hsz)) ?_
        intro ex a'' w'' hp
        have up : ∀ b, Keep (writes y) a' b → Keep (writes (.seq x y)) a b := fun b hb => (hk.mono fun t ht => List.mem_append_left _ ht).trans (hb.mono fun t ht => List.mem_append_right _ ht)
        cases ex with
        | normal => exact ⟨up _ hp.1, hp.2⟩
        | exit id => exact ⟨up _ hp.1, hp.2⟩
        | ret => exact ⟨hp.1.trans hk.3, hp.2⟩
        | goto l => exact hp
        | panic ch => exact hp
        | outgrown => exact hp
      | exit id => exact ⟨hp.1.mono fun t ht => List.mem_append_left _ ht, hp.2⟩
      | ret => exact hp
      | goto l => exact hp
      | panic ch => exact hp
      | outgrown => exact hp
    · exact hd.elim
  | cond c x y ihx ihy =>
    intro ann e h k ke kr a w hd hin hf st hsz
    unfold dCode at hd
    split at hd
    · rename_i sl ax ay b hb
      have hx : codeIn m x = true := codeIn_sub hin fun t ht => List.mem_append_left _ ht
      have hy : codeIn m y = true := codeIn_sub hin fun t ht => List.mem_append_right _ ht
      refine wp_cond_split (hf.ev hb) ?_ ?_
      · intro ht
        refine wp_mono (ihx ax e h _ ke kr a w (hd.1 ht) hx hf st hsz) ?_
        intro ex a' w' hp
        cases ex with
        | normal =>
          obtain ⟨hk, e', h', hf', st', hd'⟩ := hp
          obtain ⟨es, h1, h2⟩ := app_abs hd'
          have hk' : Keep (writes x ++ writes y) a a' := hk.mono fun t ht => List.mem_append_left _ ht
          exact ⟨hk', _, h', fits_join hf hf' hk' h1, st', h2⟩
        | exit id => exact ⟨hp.1.mono fun t ht => List.mem_append_left _ ht, hp.2⟩
        | ret => exact hp
        | goto l => exact hp
        | panic ch => exact hp
        | outgrown => exact hp
      · intro ht
        refine wp_mono (ihy ay e h _ ke kr a w (hd.2 ht) hy hf st hsz) ?_
        intro ex a' w' hp
        cases ex with
        | normal =>
          obtain ⟨hk, e', h', hf', st', hd'⟩ := hp
          obtain ⟨es, h1, h2⟩ := app_abs hd'
          have hk' : Keep (writes x ++ writes y) a a' := hk.mono fun t ht => List.mem_append_right _ ht
          exact ⟨hk', _, h', fits_join hf hf' hk' h1, st', h2⟩
        | exit id => exact ⟨hp.1.mono fun t ht => List.mem_append_right _ ht, hp.2⟩
        | ret => exact hp
        | goto l => exact hp
        | panic ch => exact hp
        | outgrown => exact hp
    · exact hd.elim
  | block id c ih =>
    intro ann e h k ke kr a w hd hin hf st hsz
    unfold dCode at hd
    split at hd
    · rename_i sl ax
      refine wp_block (wp_mono (ih ax e h _ _ kr a w hd hin hf st hsz) ?_)
      have fin : ∀ a' w' e' h', Keep (writes c) a a' → Fits e' a' → St W h' w' → appF sl (absF sl fun es h' => k (es ++ e.drop (writes c)) h') e' h' → Post W (writes (.block id c)) a k ke kr .normal a' w' := by
        intro a' w' e' h' hk hf' st' hd'
        obtain ⟨es, h1, h2⟩ := app_abs hd'
        exact ⟨hk, _, h', fits_join hf hf' hk h1, st', h2⟩
      intro ex a' w' hp
      cases ex with
      | normal =>
        obtain ⟨hk, e', h', hf', st', hd'⟩ := hp
        exact fin a' w' e' h' hk hf' st' hd'
      | exit id' =>
        obtain ⟨hk, e', h', hf', st', hd'⟩ := hp
        show if id' = id then _ else _
        cases hb : Nat.beq id' id with
        | true =>
          rw [hb] at hd'
          rw [if_pos (Nat.eq_of_beq_eq_true hb)]
          exact fin a' w' e' h' hk hf' st' hd'
        | false =>
          rw [hb] at hd'
          rw [if_neg (fun e => by subst e; simp at hb)]
          exact ⟨hk, e', h', hf', st', hd'⟩
      | ret => exact hp
      | goto l => exact hp
      | panic ch => exact hp
      | outgrown => exact hp
    · exact hd.elim
  | loop c ih =>
    intro ann e h k ke kr a w hd hin hf st hsz
    unfold dCode at hd
    split at hd
    · rename_i sl ax
      obtain ⟨n, hd⟩ := hd
      refine wp_loop_rounds n ?_
      have claim : ∀ n a' w' e' h', appF sl (xLoopN (botF sl) (fun J => absF sl fun es h' => dCode P c ax (es ++ e.drop (writes c)) h' (appF sl J) ke kr) n) e' h' → Keep (writes c) a a' → Fits e' a' → St W h' w' → Code.rounds P c (Post W (writes (.loop c)) a k ke kr) n a' w' := by
        intro n
        induction n with
        | zero =>
          intro a' w' e' h' hd' _ _ _
          obtain ⟨es, _, h2⟩ := app_abs (F := fun _ _ => False) hd'
          exact h2
        | succ n ihn =>
          intro a' w' e' h' hd' hk hf' st'
          obtain ⟨es, h1, h2⟩ := app_abs (F := fun es h' => dCode P c ax (es ++ e.drop (writes c)) h' (appF sl (xLoopN (botF sl) _ n)) ke kr) hd'
          rw [rounds_succ]
          refine wp_mono (ih ax _ h' _ ke kr a' w' h2 hin (fits_join hf hf' hk h1) st' (by rw [hk.1]; exact hsz)) ?_
          intro ex a'' w'' hp
          cases ex with
          | normal =>
            obtain ⟨hk', e'', h'', hf'', st'', hd''⟩ := hp
            exact ihn a'' w'' e'' h'' hd'' (hk.trans hk') hf'' st''
          | exit id => exact ⟨hk.trans hp.1, hp.2⟩
          | ret => exact ⟨hp.1.trans hk.3, hp.2⟩
          | goto l => exact hp
          | panic ch => exact hp
          | outgrown => exact hp
      exact claim n a w e h hd (Keep.refl _ _) hf st
    · exact hd.elim
  | exit id => exact fun ann e h k ke kr a w hd _ hf st _ => wp_exit ⟨Keep.refl _ _, e, h, hf, st, hd⟩
  | ret => exact fun ann e h k ke kr a w hd _ hf st _ => wp_ret ⟨rfl, e, h, hf, st, hd⟩
  | _ => intro ann e h k ke kr a w hd; exact hd.elim

/-! ### Functions -/
def argEnv : List Value → Nat → Env
  | [], _ => []
  | v :: vs, i => (i, v) :: argEnv vs (i + 1)

def dRets (P : Program) : List ResultVar → Env → PH → (List Value → Prop) → Prop
  | [], _, _, K => K []
  | .tmp t :: r, e, h, K => match e.get t with
    | some v => dRets P r e h fun vs => K (v :: vs)
    | none => False
  | .cell a t :: r, e, h, K => match P.underlying t, e.get a with
    | some _, some (.pointer (some p)) => oLoad (leafOf P t) h p fun v => dRets P r e h fun vs => K (v :: vs)
    | _, _ => False

def retVal : List Value → Value
  | [v] => v
  | vs => .tuple vs.toArray

/-- THE FUNCTION's READING. -/
def dFn (P : Program) (fn : Func) (ann : Ann) (args : Array Value) (h : PH) (Q : Value → PH → Prop) : Prop :=
  match fn.body with
  | some c => dCode P c ann (argEnv args.toList 0) h (fun e h' => dRets P fn.results.toList e h' fun vs => Q (retVal vs) h') (fun _ _ _ => False) (fun e h' => dRets P fn.results.toList e h' fun vs => Q (retVal vs) h')
  | none => False

theorem argEnv_get : ∀ (vs : List Value) (i t : Nat) (v : Value), (argEnv vs i).get t = some v → i ≤ t ∧ vs[t - i]? = some v
  | [], i, t, v, h => by simp [argEnv, Env.get] at h
  | x :: vs, i, t, v, h => by
    simp only [argEnv, Env.get_cons] at h
    split at h
    · rename_i e; subst e; simp at h; subst h; exact ⟨Nat.le_refl _, by simp⟩
    · obtain ⟨h1, h2⟩ := argEnv_get vs (i + 1) t v h
      refine ⟨by omega, ?_⟩
      rw [show t - i = (t - (i + 1)) + 1 from by omega]; simpa using h2

/-- One result. -/
def resOne (tmps : Array Value) : ResultVar → Sem Value
  | .tmp t => pure (tmps.getD t undef)
  | .cell a t => do loadVar t (← asAddr (tmps.getD a undef))
theorem results_eq (fn : Func) (tmps : Array Value) : results fn tmps = (do
    let vs ← fn.results.mapM (resOne tmps)
    pure (if h : vs.size = 1 then vs[0] else .tuple vs)) := rfl

theorem dRets_sound {P : Program} {W : World} {a : Act} {w : World} {e : Env} {h : PH} (hf : Fits e a) (st : St W h w) : ∀ (l : List ResultVar) (K : List Value → Prop), dRets P l e h K →
    ∃ vs, K vs ∧ (l.mapM (resOne a.tmps)).run P w = .ok vs w
  | [], K, hd => ⟨[], hd, rfl⟩
  | .tmp t :: r, K, hd => by
    simp only [dRets] at hd
    cases hv : e.get t with
    | none => rw [hv] at hd; exact hd.elim
    | some v =>
      rw [hv] at hd
      obtain ⟨vs, hK, hr⟩ := dRets_sound hf st r _ hd
      refine ⟨v :: vs, hK, ?_⟩
      rw [List.mapM_cons, Sem.run_bind]
      have : a.tmps.getD t undef = v := getD_of (hf.g t v hv)
      simp only [resOne, this]
      show Result.andThen (Result.ok v w) _ = _
      rw [Result.andThen_ok, Sem.run_bind, hr]
      rfl
  | .cell p t :: r, K, hd => by
    simp only [dRets] at hd
    split at hd
    · rename_i d q hu hv
      obtain ⟨v, hd', hrd⟩ := oLoad_reads hd (by rw [hu]; rfl)
      obtain ⟨vs, hK, hr⟩ := dRets_sound hf st r _ hd'
      refine ⟨v :: vs, hK, ?_⟩
      rw [List.mapM_cons, Sem.run_bind]
      have : a.tmps.getD p undef = .pointer (some q) := getD_of (hf.g p _ hv)
      simp only [resOne, this]
      have h1 : (do loadVar t (← asAddr (.pointer (some q))) : Sem Value).run P w = .ok v w := by
        show (asAddr (.pointer (some q)) >>= loadVar t).run P w = _
        exact ((Reads.pure q).bind hrd) W w st
      rw [h1, Result.andThen_ok, Sem.run_bind, hr]
      rfl
    · exact hd.elim

/-- The function's own bounds: what it writes lies in its frame. -/
def fnOk (fn : Func) (n : Nat) : Bool := match fn.body with
  | some c => codeIn fn.ntmps c && Nat.ble n fn.ntmps
  | none => false

theorem spec_of {P : Program} {f : FuncId} {fn : Func} {ann : Ann} {args : Array Value} {h : PH} {Q : Value → PH → Prop} (hf : P.funcs[f]? = some fn) (hmix : P.follows .mixedOrders = true) (hok : fnOk fn args.size = true)
    (hd : dFn P fn ann args h Q) : Meets P f args h Q := by
  intro W w st
  unfold dFn at hd
  unfold fnOk at hok
  cases hb : fn.body with
  | none => rw [hb] at hd; exact hd.elim
  | some c =>
    rw [hb] at hd hok
    simp only [Bool.and_eq_true] at hok
    obtain ⟨hin, hle⟩ := hok
    have hle := Nat.le_of_ble_eq_true hle
    refine calls_of_wp hf hb ?_
    have hsz : (args ++ Array.replicate (fn.ntmps - args.size) undef).size = fn.ntmps := by simp; omega
    have hfit : Fits (argEnv args.toList 0) { tmps := args ++ Array.replicate (fn.ntmps - args.size) undef, defers := [] } := by
      refine ⟨fun t v hg => ?_⟩
      obtain ⟨_, hv⟩ := argEnv_get _ _ _ _ hg
      simp only [Nat.sub_zero] at hv
      have hv' : args[t]? = some v := by simpa using hv
      have hlt : t < args.size := (Array.getElem?_eq_some_iff.1 hv').1
      simp only [Array.getElem?_append, hlt, if_true]
      exact hv'
    refine wp_mono (dCode_sound hmix c ann _ h _ _ _ _ w hd hin hfit st (by rw [hsz]; exact Nat.le_refl _)) ?_
    have fin : ∀ (a : Act) (w' : World) (e : Env) (h' : PH), a.defers = [] → Fits e a → St W h' w' → dRets P fn.results.toList e h' (fun vs => Q (retVal vs) h') →
        a.defers = [] ∧ ∃ v, (results fn a.tmps).run P w' = .ok v w' ∧ ∃ v_1 h'', Ending.returned v = .returned v_1 ∧ St W h'' w' ∧ Q v_1 h'' := by
      intro a w' e h' hdf hf' st' hr
      obtain ⟨vs, hQ, hrun⟩ := dRets_sound hf' st' _ _ hr
      refine ⟨hdf, retVal vs, ?_, retVal vs, h', rfl, st', hQ⟩
      rw [results_eq]
      have hl : fn.results = fn.results.toList.toArray := by simp
      rw [hl, List.mapM_toArray, Sem.run_bind, Sem.run_map, hrun]
      simp only [Result.andThen_ok]
      unfold retVal
      cases vs with
      | nil => rfl
      | cons v r =>
        cases r with
        | nil => rfl
        | cons u r =>
          simp only [List.size_toArray, List.length_cons]
          rw [dif_neg (by omega)]
          rfl
    intro ex a w' hp
    cases ex with
    | normal => obtain ⟨hk, e, h', hf', st', hr⟩ := hp; exact fin a w' e h' hk.3 hf' st' hr
    | ret => obtain ⟨hk, e, h', hf', st', hr⟩ := hp; exact fin a w' e h' hk hf' st' hr
    | exit id => exact hp.2.elim fun _ ⟨_, _, _, hx⟩ => hx
    | goto l => exact (show False from hp).elim
    | panic ch => exact (show False from hp).elim
    | outgrown => exact (show False from hp).elim

end Go.Sx

/-
  SX, part 8: the words that printed readings use, and what is plain about them.
-/
namespace Go.Sx
open Go

def xNew (h : PH) (o : Obj) (K : Nat → PH → Prop) : Prop := ∀ b, h b = none → K b (h.upd b o)
def xDraw (h : PH) (K : PH → Prop) : Prop := ∃ hs : PH, hs.le h ∧ K hs
def oTup (v : Value) (n : Nat) (K : Array Value → Prop) : Prop := ∃ cs : Array Value, v = .tuple cs ∧ cs.size = n ∧ K cs
def oIx (c : Option Value) (K : Value → Prop) : Prop := ∃ w, c = some w ∧ K w
def oAgg (v : Value) (n : Nat) (K : Array Value → Prop) : Prop := ∃ cs : Array Value, v = .agg cs ∧ cs.size = n ∧ K cs

theorem xDraw_self {h : PH} {K : PH → Prop} (k : K h) : xDraw h K := ⟨h, PH.le_refl h, k⟩
@[simp] theorem oTup_mk (cs : Array Value) (n : Nat) (K : Array Value → Prop) : oTup (.tuple cs) n K ↔ cs.size = n ∧ K cs := ⟨fun ⟨c, e, hn, k⟩ => by simp at e; subst e; exact ⟨hn, k⟩, fun ⟨hn, k⟩ => ⟨cs, rfl, hn, k⟩⟩
@[simp] theorem oAgg_mk (cs : Array Value) (n : Nat) (K : Array Value → Prop) : oAgg (.agg cs) n K ↔ cs.size = n ∧ K cs := ⟨fun ⟨c, e, hn, k⟩ => by simp at e; subst e; exact ⟨hn, k⟩, fun ⟨hn, k⟩ => ⟨cs, rfl, hn, k⟩⟩
@[simp] theorem oIx_some (v : Value) (K : Value → Prop) : oIx (some v) K ↔ K v := ⟨fun ⟨c, e, k⟩ => by simp at e; subst e; exact k, fun k => ⟨v, rfl, k⟩⟩
@[simp] theorem xNn_some (a : Addr) (K : Addr → Prop) : xNn (some a) K ↔ K a := ⟨fun ⟨b, e, k⟩ => by simp at e; subst e; exact k, fun k => ⟨a, rfl, k⟩⟩
/-! ### Reading what is known -/
@[simp] theorem add_mk (b o n : Nat) : (⟨b, o, none⟩ : Addr).add n = ⟨b, o + n, none⟩ := by
  unfold Addr.add; split
  · rename_i e; subst e; rfl
  · rfl
theorem cellAt {h : PH} {b : Nat} {c : Array Value} {el : TypeId} {fz : Nat × Nat} (hb : h b = some (.cells c el fz)) (o : Nat) : h.cell ⟨b, o, none⟩ = c[o]? := by
  unfold PH.cell; rw [hb]; rfl
@[simp] theorem xIdx_some (a : Addr) (len : Nat) (i : Int) (size : Nat) (K : Addr → Prop) : xIdx (some a) len i size K ↔ 0 ≤ i ∧ i < len ∧ K (a.add (i.toNat * size)) :=
  ⟨fun ⟨b, e, h0, h1, k⟩ => by simp at e; subst e; exact ⟨h0, h1, k⟩, fun ⟨h0, h1, k⟩ => ⟨a, rfl, h0, h1, k⟩⟩

/-- Some blocks may have turned; all others that were known are as they were. -/
def Ext (S : List Nat) (h h' : PH) : Prop := ∀ b O, h b = some O → b ∉ S → h' b = some O
theorem Ext.refl (S : List Nat) (h : PH) : Ext S h h := fun _ _ x _ => x
theorem Ext.of_le {S : List Nat} {h h' : PH} (l : h.le h') : Ext S h h' := fun b O x _ => l b O x
theorem Ext.le {h h' : PH} (e : Ext [] h h') : h.le h' := fun b O x => e b O x (by simp)
theorem Ext.trans {S T : List Nat} {a b c : PH} (x : Ext S a b) (y : Ext T b c) : Ext (S ++ T) a c :=
  fun n O h hn => y n O (x n O h fun hm => hn (List.mem_append_left _ hm)) fun hm => hn (List.mem_append_right _ hm)
theorem Ext.trans' {S : List Nat} {a b c : PH} (x : Ext S a b) (y : Ext S b c) : Ext S a c := fun n O h hn => y n O (x n O h hn) hn
theorem Ext.mono {S T : List Nat} {a b : PH} (x : Ext S a b) (h : ∀ n, n ∈ S → n ∈ T) : Ext T a b := fun n O hn hm => x n O hn fun hs => hm (h n hs)

theorem xNew_intro {h : PH} {o : Obj} {K : Nat → PH → Prop} (k : ∀ b h1, h.le h1 → h b = none → h1 b = some o → K b h1) : xNew h o K :=
  fun b hb => k b _ (PH.le_upd hb) hb (by simp)

/-- A store into a block of one's own: 'g' is what was known at first, and does not know it. -/
theorem xSt_own {g h : PH} {n b o : Nat} {vs : List Value} {K : PH → Prop} {c : Array Value} {el : TypeId} (hg : g.le h) (hn : g b = none) (hb : h b = some (.cells c el (0, 0))) (hl : vs.length = n) (hz : n ≠ 0) (ho : ∀ v ∈ vs, oneCell v = true) (hf : o + n ≤ c.size)
    (k : ∀ h1, g.le h1 → h1 b = some (.cells (setN c o vs) el (0, 0)) → (∀ x, x ≠ b → h1 x = h x) → K h1) : xSt n h ⟨b, o, none⟩ vs K := by
  refine ⟨hl, hz, ho, c, el, hb, rfl, hf, k _ ?_ (by simp) (fun x hx => PH.upd_ne _ _ hx)⟩
  intro x O hx
  have : x ≠ b := fun e => by subst e; rw [hn] at hx; cases hx
  show (h.upd b _) x = _
  rw [PH.upd_ne _ _ this]; exact hg x O hx

/-- A store into a block that was known. -/
theorem xSt_at {h : PH} {n b o : Nat} {vs : List Value} {K : PH → Prop} {c : Array Value} {el : TypeId} (hb : h b = some (.cells c el (0, 0))) (hl : vs.length = n) (hz : n ≠ 0) (ho : ∀ v ∈ vs, oneCell v = true) (hf : o + n ≤ c.size)
    (k : ∀ h1, h1 b = some (.cells (setN c o vs) el (0, 0)) → (∀ x, x ≠ b → h1 x = h x) → K h1) : xSt n h ⟨b, o, none⟩ vs K :=
  ⟨hl, hz, ho, c, el, hb, rfl, hf, k _ (by simp) (fun x hx => PH.upd_ne _ _ hx)⟩

/-! ### 'a && b', 'a || b' -/
theorem xSc_and {b : Bool} {grp : (Bool → PH → Prop) → Prop} {K : Bool → PH → Prop} {h : PH} (x : Bool) (hg : b = true → ∀ J : Bool → PH → Prop, J x h → grp J) (k : K (b && x) h) : xSc b true grp K h := by
  refine ⟨fun hb => hg hb K (by subst hb; exact k), fun hb => ?_⟩
  simp at hb; subst hb; exact k
theorem xSc_or {b : Bool} {grp : (Bool → PH → Prop) → Prop} {K : Bool → PH → Prop} {h : PH} (x : Bool) (hg : b = false → ∀ J : Bool → PH → Prop, J x h → grp J) (k : K (b || x) h) : xSc b false grp K h := by
  refine ⟨fun hb => hg hb K (by subst hb; exact k), fun hb => ?_⟩
  simp at hb; subst hb; exact k
/-- .. where the second one may make memory. -/
theorem xSc_and_le {b : Bool} {grp : (Bool → PH → Prop) → Prop} {K : Bool → PH → Prop} {h : PH} (x : Bool) (hg : b = true → ∀ J : Bool → PH → Prop, (∀ h', h.le h' → J x h') → grp J) (k : ∀ h', h.le h' → K (b && x) h') : xSc b true grp K h := by
  refine ⟨fun hb => hg hb K (fun h' l => by subst hb; exact k h' l), fun hb => ?_⟩
  simp at hb; subst hb; exact k h (PH.le_refl h)
theorem xSc_or_le {b : Bool} {grp : (Bool → PH → Prop) → Prop} {K : Bool → PH → Prop} {h : PH} (x : Bool) (hg : b = false → ∀ J : Bool → PH → Prop, (∀ h', h.le h' → J x h') → grp J) (k : ∀ h', h.le h' → K (b || x) h') : xSc b false grp K h := by
  refine ⟨fun hb => hg hb K (fun h' l => by subst hb; exact k h' l), fun hb => ?_⟩
  simp at hb; subst hb; exact k h (PH.le_refl h)

theorem xIte_t {T : Type} {b : Bool} {thn els : T → Prop} {K : T} (hb : b = true) (k : thn K) : xIte b thn els K := ⟨fun _ => k, fun h => by rw [hb] at h; cases h⟩
theorem xIte_f {T : Type} {b : Bool} {thn els : T → Prop} {K : T} (hb : b = false) (k : els K) : xIte b thn els K := ⟨fun h => (by rw [hb] at h; cases h), fun _ => k⟩

/-! ### Loops: an invariant, and what goes down -/
theorem xLoop0 {B : (PH → Prop) → PH → Prop} (I : PH → Prop) (μ : PH → Nat) (step : ∀ (J : PH → Prop) h, I h → (∀ h', I h' → μ h' < μ h → J h') → B J h) {h : PH} (h0 : I h) : ∃ n, xLoopN (fun _ => False) B n h := by
  have key : ∀ n h, I h → μ h < n → xLoopN (fun _ => False) B n h := by
    intro n
    induction n with
    | zero => intro h _ hl; omega
    | succ n ih => exact fun h hi hl => step _ h hi fun h' hi' hl' => ih h' hi' (by omega)
  exact ⟨μ h + 1, key _ h h0 (by omega)⟩
theorem xLoop1 {α : Type} {B : (α → PH → Prop) → α → PH → Prop} (I : α → PH → Prop) (μ : α → PH → Nat) (step : ∀ (J : α → PH → Prop) x h, I x h → (∀ x' h', I x' h' → μ x' h' < μ x h → J x' h') → B J x h) {x : α} {h : PH} (h0 : I x h) :
    ∃ n, xLoopN (fun _ _ => False) B n x h := by
  have key : ∀ n x h, I x h → μ x h < n → xLoopN (fun _ _ => False) B n x h := by
    intro n
    induction n with
    | zero => intro x h _ hl; omega
    | succ n ih => exact fun x h hi hl => step _ x h hi fun x' h' hi' hl' => ih x' h' hi' (by omega)
  exact ⟨μ x h + 1, key _ x h h0 (by omega)⟩
theorem xLoop2 {α β : Type} {B : (α → β → PH → Prop) → α → β → PH → Prop} (I : α → β → PH → Prop) (μ : α → β → PH → Nat)
    (step : ∀ (J : α → β → PH → Prop) x y h, I x y h → (∀ x' y' h', I x' y' h' → μ x' y' h' < μ x y h → J x' y' h') → B J x y h) {x : α} {y : β} {h : PH} (h0 : I x y h) : ∃ n, xLoopN (fun _ _ _ => False) B n x y h := by
  have key : ∀ n x y h, I x y h → μ x y h < n → xLoopN (fun _ _ _ => False) B n x y h := by
    intro n
    induction n with
    | zero => intro x y h _ hl; omega
    | succ n ih => exact fun x y h hi hl => step _ x y h hi fun x' y' h' hi' hl' => ih x' y' h' hi' (by omega)
  exact ⟨μ x y h + 1, key _ x y h h0 (by omega)⟩
theorem xLoop3 {α β γ : Type} {B : (α → β → γ → PH → Prop) → α → β → γ → PH → Prop} (I : α → β → γ → PH → Prop) (μ : α → β → γ → PH → Nat)
    (step : ∀ (J : α → β → γ → PH → Prop) x y z h, I x y z h → (∀ x' y' z' h', I x' y' z' h' → μ x' y' z' h' < μ x y z h → J x' y' z' h') → B J x y z h) {x : α} {y : β} {z : γ} {h : PH} (h0 : I x y z h) : ∃ n, xLoopN (fun _ _ _ _ => False) B n x y z h := by
  have key : ∀ n x y z h, I x y z h → μ x y z h < n → xLoopN (fun _ _ _ _ => False) B n x y z h := by
    intro n
    induction n with
    | zero => intro x y z h _ hl; omega
    | succ n ih => exact fun x y z h hi hl => step _ x y z h hi fun x' y' z' h' hi' hl' => ih x' y' z' h' hi' (by omega)
  exact ⟨μ x y z h + 1, key _ x y z h h0 (by omega)⟩
theorem xLoop4 {α β γ δ : Type} {B : (α → β → γ → δ → PH → Prop) → α → β → γ → δ → PH → Prop} (I : α → β → γ → δ → PH → Prop) (μ : α → β → γ → δ → PH → Nat)
    (step : ∀ (J : α → β → γ → δ → PH → Prop) x y z u h, I x y z u h → (∀ x' y' z' u' h', I x' y' z' u' h' → μ x' y' z' u' h' < μ x y z u h → J x' y' z' u' h') → B J x y z u h) {x : α} {y : β} {z : γ} {u : δ} {h : PH} (h0 : I x y z u h) :
    ∃ n, xLoopN (fun _ _ _ _ _ => False) B n x y z u h := by
  have key : ∀ n x y z u h, I x y z u h → μ x y z u h < n → xLoopN (fun _ _ _ _ _ => False) B n x y z u h := by
    intro n
    induction n with
    | zero => intro x y z u h _ hl; omega
    | succ n ih => exact fun x y z u h hi hl => step _ x y z u h hi fun x' y' z' u' h' hi' hl' => ih x' y' z' u' h' hi' (by omega)
  exact ⟨μ x y z u h + 1, key _ x y z u h h0 (by omega)⟩

/-- A call. -/
theorem call {P : Program} {f : FuncId} {args : Array Value} {h : PH} {Q Q' : Value → PH → Prop} (s : Meets P f args h Q') (k : ∀ v h', Q' v h' → Q v h') : Meets P f args h Q := s.mono k

theorem wrap_id {n : Int} (h0 : -9223372036854775808 ≤ n) (h1 : n < 9223372036854775808) : IntKind.wrap .i64 n = n := wrap64_id h0 h1

end Go.Sx

/-
  SX, part 9: plain rules for reading and writing what is known of memory.
-/
namespace Go.Sx
open Go

theorem cell_mk (h : PH) (b o : Nat) : h.cell ⟨b, o, none⟩ = (h b).bind fun O => match O with | .cells c _ _ => c[o]? | _ => none := by
  unfold PH.cell
  cases h b with
  | none => rfl
  | some O => cases O <;> rfl
theorem upd_at (h : PH) (b x : Nat) (O : Obj) : (h.upd b O) x = if x = b then some O else h x := rfl

/-- What only looks: nothing is known behind it that was not known. -/
theorem Meets.same {P : Program} {f : FuncId} {args : Array Value} {h : PH} {φ : Value → Prop} (s : Meets P f args h fun v h' => φ v ∧ h.le h') : Meets P f args h fun v h' => φ v ∧ h' = h :=
  fun W w hs => (s W w hs).mono fun _ _ ⟨v, _, he, hs', hq, hl⟩ => ⟨v, h, he, hs'.le hl, hq, rfl⟩
/-- A contract of a look, used. -/
theorem Meets.look {P : Program} {f : FuncId} {args : Array Value} {h : PH} {r : Value} {Q : Value → PH → Prop} (s : Meets P f args h fun v h' => v = r ∧ h' = h) (k : Q r h) : Meets P f args h Q :=
  s.mono fun _ _ ⟨e1, e2⟩ => by subst e1; subst e2; exact k
theorem le_upd2 {g h : PH} {b : Nat} {O : Obj} (l : g.le h) (n : h b = none) : g.le (h.upd b O) := PH.le_upd_of l n
theorem Meets.weaken {P : Program} {f : FuncId} {args : Array Value} {h g : PH} {Q : Value → PH → Prop} (l : g.le h) (s : Meets P f args g Q) : Meets P f args h Q := fun W w hs => s W w (hs.le l)

theorem xSt_mk {n : Nat} {h : PH} {b o : Nat} {vs : List Value} {K : PH → Prop} {c : Array Value} {el : TypeId} (hb : h b = some (.cells c el (0, 0))) (hl : vs.length = n) (hz : n ≠ 0) (ho : ∀ v ∈ vs, oneCell v = true) (hf : o + n ≤ c.size)
    (k : K (h.upd b (.cells (setN c o vs) el (0, 0)))) : xSt n h ⟨b, o, none⟩ vs K := ⟨hl, hz, ho, c, el, hb, rfl, hf, k⟩
theorem upd_le_upd {g h : PH} {b : Nat} {O : Obj} (hb : g b = none) (l : g.le h) : g.le (h.upd b O) := by
  intro x o hx
  have : x ≠ b := fun e => by subst e; rw [hb] at hx; cases hx
  rw [PH.upd_ne _ _ this]; exact l x o hx
theorem ne_of_known {h : PH} {x b : Nat} {O : Obj} (hx : h x = some O) (hb : h b = none) : x ≠ b := fun e => by subst e; rw [hb] at hx; cases hx
theorem xDraw_le {h : PH} {K : PH → Prop} (k : K h) : xDraw h K := ⟨h, PH.le_refl h, k⟩
theorem xDraw_iff (h : PH) (K : PH → Prop) (k : K h) : xDraw h K := ⟨h, PH.le_refl h, k⟩

/-- A frame: of one's own blocks. -/
theorem Ext.upd_new {S : List Nat} {g h : PH} {b : Nat} {O : Obj} (e : Ext S g h) (n : g b = none) : Ext S g (h.upd b O) := by
  intro x o hx hm
  have : x ≠ b := fun e => by subst e; rw [n] at hx; cases hx
  rw [PH.upd_ne _ _ this]; exact e x o hx hm
theorem Ext.upd_in {S : List Nat} {g h : PH} {b : Nat} {O : Obj} (e : Ext S g h) (n : b ∈ S) : Ext S g (h.upd b O) := by
  intro x o hx hm
  have : x ≠ b := fun e => by subst e; exact hm n
  rw [PH.upd_ne _ _ this]; exact e x o hx hm

theorem del_at (h : PH) (b x : Nat) : (h.del b) x = if x = b then none else h x := rfl
theorem PH.del_le (h : PH) (b : Nat) : (h.del b).le h := by
  intro x o hx
  rw [del_at] at hx
  split at hx
  · cases hx
  · exact hx
/-- Drawn without a block that will be turned. -/
theorem xDraw_del {h : PH} (b : Nat) {K : PH → Prop} (k : K (h.del b)) : xDraw h K := ⟨h.del b, PH.del_le h b, k⟩
theorem PH.del_le_upd {g h : PH} {b : Nat} {O : Obj} (l : (g.del b).le h) : (g.del b).le (h.upd b O) := by
  intro x o hx
  have : x ≠ b := fun e => by subst e; simp [del_at] at hx
  rw [PH.upd_ne _ _ this]; exact l x o hx

theorem setN2 (x y a b : Value) : setN #[x, y] 0 [a, b] = #[a, b] := rfl
theorem setN3 (x y z a b c : Value) : setN #[x, y, z] 0 [a, b, c] = #[a, b, c] := rfl
theorem setN5 (x y z u v a b c d e : Value) : setN #[x, y, z, u, v] 0 [a, b, c, d, e] = #[a, b, c, d, e] := rfl
theorem upd_none {h : PH} {b x : Nat} {O : Obj} (n : (h.upd b O) x = none) : b ≠ x ∧ h x = none := by
  rw [upd_at] at n
  split at n
  · cases n
  · rename_i e; exact ⟨fun y => e y.symm, n⟩

/-- Without some blocks. -/
def PH.cut (h : PH) (S : List Nat) : PH := fun x => if x ∈ S then none else h x
theorem PH.cut_le (h : PH) (S : List Nat) : (h.cut S).le h := by
  intro x o hx
  unfold PH.cut at hx
  split at hx
  · cases hx
  · exact hx
theorem PH.cut_at {h : PH} {S : List Nat} {x : Nat} (n : x ∉ S) : (h.cut S) x = h x := by unfold PH.cut; rw [if_neg n]
theorem PH.cut_ext {g h : PH} {S : List Nat} (e : Ext S g h) : (g.cut S).le h := by
  intro x o hx
  unfold PH.cut at hx
  split at hx
  · cases hx
  · rename_i n; exact e x o hx n
theorem xDraw_cut {h : PH} (S : List Nat) {K : PH → Prop} (k : K (h.cut S)) : xDraw h K := ⟨h.cut S, PH.cut_le h S, k⟩

/-- Where ways meet: what is known there. -/
theorem xBlk_split {f : (PH → Prop) → Prop} {K : PH → Prop} (I : PH → Prop) (hK : ∀ h, I h → K h) (hf : ∀ K' : PH → Prop, (∀ h, I h → K' h) → f K') : xBlk f K := hf K hK

/-! ### Step by step -/
theorem nn {a : Addr} {K : Addr → Prop} (k : K a) : xNn (some a) K := ⟨a, rfl, k⟩
section
variable {h : PH} {b o i : Nat} {c : Array Value} {el : TypeId} {fz : Nat × Nat}
theorem cellAdd (hb : h b = some (.cells c el fz)) : h.cell ((⟨b, o, none⟩ : Addr).add i) = c[o + i]? := by rw [add_mk]; exact cellAt hb _
theorem rIa {k : IntKind} {n : Int} {K : Int → Prop} (hb : h b = some (.cells c el fz)) (hc : c[o + i]? = some (.int k n)) (kk : K n) : oI k (h.cell ((⟨b, o, none⟩ : Addr).add i)) K := ⟨n, (cellAdd hb).trans hc, kk⟩
theorem rBa {n : Bool} {K : Bool → Prop} (hb : h b = some (.cells c el fz)) (hc : c[o + i]? = some (.bool n)) (kk : K n) : oB (h.cell ((⟨b, o, none⟩ : Addr).add i)) K := ⟨n, (cellAdd hb).trans hc, kk⟩
theorem rPa {n : Option Addr} {K : Option Addr → Prop} (hb : h b = some (.cells c el fz)) (hc : c[o + i]? = some (.pointer n)) (kk : K n) : oP (h.cell ((⟨b, o, none⟩ : Addr).add i)) K := ⟨n, (cellAdd hb).trans hc, kk⟩
theorem rMa {n : Option Nat} {K : Option Nat → Prop} (hb : h b = some (.cells c el fz)) (hc : c[o + i]? = some (.map n)) (kk : K n) : oM (h.cell ((⟨b, o, none⟩ : Addr).add i)) K := ⟨n, (cellAdd hb).trans hc, kk⟩
theorem rSa {a : Option Addr} {l m : Nat} {K : Option Addr → Nat → Nat → Prop} (hb : h b = some (.cells c el fz)) (hc : c[o + i]? = some (.slice a l m)) (kk : K a l m) : oS (h.cell ((⟨b, o, none⟩ : Addr).add i)) K := ⟨a, l, m, (cellAdd hb).trans hc, kk⟩
end
theorem xIdx_at {b o len : Nat} {i : Int} {size : Nat} {K : Addr → Prop} (h0 : 0 ≤ i) (h1 : i < len) (k : K ⟨b, o + i.toNat * size, none⟩) : xIdx (some ⟨b, o, none⟩) len i size K := ⟨_, rfl, h0, h1, by rw [add_mk]; exact k⟩

end Go.Sx

/-
  The model of monitors as plain values: what its transitions do.
-/
namespace Go.Md
open Go

structure Mo where
  owner : Int
  count : Int
  hash : Int
structure Ev where
  kind : Int
  thread : Int
  obj : Int
  arg : Int
  err : Int
/-- Of places: the object, the thread, and what is kept. -/
abbrev Pl (α : Type) := List (Int × Int × α)
structure Ms where
  most : Int
  mons : List Mo
  flags : List Bool
  waits : Pl Int
  left : Pl (Int × Int)

def Pl.find {α : Type} (l : Pl α) (o t : Int) : Option α := (List.find? (fun p => p.1 == o && p.2.1 == t) l).map (·.2.2)
def Pl.put {α : Type} : Pl α → Int → Int → α → Pl α
  | [], o, t, v => [(o, t, v)]
  | p :: l, o, t, v => if p.1 = o ∧ p.2.1 = t then (o, t, v) :: l else p :: Pl.put l o t v
def Pl.del {α : Type} : Pl α → Int → Int → Pl α
  | [], _, _ => []
  | p :: l, o, t => if p.1 = o ∧ p.2.1 = t then l else p :: Pl.del l o t

namespace Ms
def mon (s : Ms) (o : Int) : Mo := s.mons.getD o.toNat ⟨-1, 0, 0⟩
def setMon (s : Ms) (o : Int) (m : Mo) : Ms := { s with mons := s.mons.set o.toNat m }
def flag (s : Ms) (t : Int) : Bool := s.flags.getD t.toNat false
def setFlag (s : Ms) (t : Int) (b : Bool) : Ms := { s with flags := s.flags.set t.toNat b }
def isThread (s : Ms) (t : Int) : Bool := decide (0 ≤ t) && decide (t ≤ (s.flags.length : Int) - 1)
def isObj (s : Ms) (o : Int) : Bool := decide (0 ≤ o) && decide (o ≤ (s.mons.length : Int) - 1)
def owns (s : Ms) (e : Ev) : Bool := (s.mon e.obj).owner == e.thread
def others (s : Ms) (e : Ev) : Bool := !s.owns e && (s.mon e.obj).owner != -1
def waiters (s : Ms) (o : Int) : List Int := (s.waits.filter fun p => p.1 == o).map (·.2.1)
def leavers (s : Ms) (o : Int) : List Int := (s.left.filter fun p => p.1 == o).map (·.2.1)

def enter (s : Ms) (e : Ev) : Option Ms :=
  if e.err = 0 then (if s.others e || (s.mon e.obj).count == s.most then none else some (s.setMon e.obj { s.mon e.obj with owner := e.thread, count := IntKind.wrap .i64 ((s.mon e.obj).count + 1) }))
  else if e.err = 10 then (if s.owns e && (s.mon e.obj).count == s.most then some s else none)
  else if e.err = 11 then (if e.kind == 1 && s.others e then some s else none)
  else if e.err = 14 then (if e.kind == 2 && s.others e then some s else none)
  else none
def exit (s : Ms) (e : Ev) : Option Ms :=
  if e.err = 9 then (if s.owns e then none else some s)
  else if e.err != 0 || !s.owns e then none
  else some (s.setMon e.obj { s.mon e.obj with count := IntKind.wrap .i64 ((s.mon e.obj).count - 1), owner := if IntKind.wrap .i64 ((s.mon e.obj).count - 1) = 0 then -1 else (s.mon e.obj).owner })
def begin (s : Ms) (e : Ev) : Option Ms :=
  if e.err = 9 then (if s.owns e then none else some s)
  else if e.err = 11 then (if s.owns e then some s else none)
  else if e.err = 12 then (if s.owns e && s.flag e.thread then some (s.setFlag e.thread false) else none)
  else if e.err = 0 then (if s.owns e then some { (s.setMon e.obj ⟨-1, 0, (s.mon e.obj).hash⟩) with waits := s.waits.put e.obj e.thread (s.mon e.obj).count } else none)
  else none
def leave (s : Ms) (o t why : Int) : Option Ms :=
  match s.waits.find o t with
  | none => none
  | some n => some { s with waits := s.waits.del o t, left := s.left.put o t (n, why) }
def fin (s : Ms) (e : Ev) : Option Ms :=
  match s.left.find e.obj e.thread with
  | none => none
  | some l =>
    if (s.mon e.obj).owner != -1 || l.2 != e.err then none
    else
      let s1 : Ms := { (s.setMon e.obj { s.mon e.obj with owner := e.thread, count := l.1 }) with left := s.left.del e.obj e.thread }
      some (if e.err = 12 then s1.setFlag e.thread false else s1)
def tell (s : Ms) (e : Ev) : Option Ms :=
  if e.kind = 7 then (if e.err == 0 && s.owns e then s.leave e.obj e.arg 0 else none)
  else if e.err = 9 then (if !s.owns e && (e.kind == 9 && e.arg == 0 || e.kind == 8 && e.arg == -1) then some s else none)
  else if e.err != 0 || !s.owns e then none
  else if e.kind = 9 then (if e.arg == 0 && (s.waiters e.obj).length == 0 then some s else none)
  else if s.isThread e.arg || e.arg == -1 && (s.waiters e.obj).length == 0 then some s else none
def hash (s : Ms) (e : Ev) : Option Ms :=
  if e.err = 11 then (if e.arg == 0 && (s.mon e.obj).owner != -1 then some s else none)
  else if e.err != 0 || !(decide (1 ≤ e.arg) && decide (e.arg ≤ 2147483647)) || (s.mon e.obj).hash != 0 && (s.mon e.obj).hash != e.arg then none
  else some (s.setMon e.obj { s.mon e.obj with hash := e.arg })
def holds (s : Ms) (e : Ev) : Option Ms :=
  if e.err == 0 && (e.arg == 1 && s.owns e || e.arg == 0 && !s.owns e) then some s else none
def apply (s : Ms) (e : Ev) : Option Ms :=
  if e.kind = 1 ∨ e.kind = 2 then (if e.arg = 0 then s.enter e else none)
  else if e.kind = 3 then (if e.arg = 0 then s.exit e else none)
  else if e.kind = 4 then (if e.arg = 0 then s.begin e else none)
  else if e.kind = 5 then (if e.arg == 0 && (e.err == 13 || e.err == 12 && s.flag e.thread) then s.leave e.obj e.thread e.err else none)
  else if e.kind = 6 then (if e.arg = 0 then s.fin e else none)
  else if e.kind = 7 ∨ e.kind = 8 ∨ e.kind = 9 then s.tell e
  else if e.kind = 10 then s.hash e
  else if e.kind = 11 then s.holds e
  else if e.kind = 12 then (if e.err != 0 || !s.isThread e.arg then none else some (s.setFlag e.arg true))
  else none
def gone (s : Ms) (t : Int) : Bool := (List.range s.mons.length).any fun o => (s.waits.find o t).isSome || (s.left.find o t).isSome
def may (s : Ms) (e : Ev) : Bool := s.isThread e.thread && s.isObj e.obj && (e.kind == 5 || e.kind == 6 || !s.gone e.thread)
/-- A transition: what it answers, and the model behind it. -/
def step (s : Ms) (e : Ev) : Option Ms := if s.may e then s.apply e else none
def next (s : Ms) (e : Ev) : Ms := (s.step e).getD s
def code (s : Ms) (e : Ev) : Int := if (s.step e).isSome then 0 else 15
end Ms
def Ms.new (t o c : Int) : Ms := ⟨c, List.replicate o.toNat ⟨-1, 0, 0⟩, List.replicate t.toNat false, [], []⟩

end Go.Md

/-
  The log of what was done, as plain values.
-/
namespace Go.Gh
open Go Go.Md

structure Oq where
  kind : Int
  obj : Int
  arg : Int
structure Th where
  op : Oq
  calls : Int
  opn : Bool
  many : Int
  last : Ev
structure En where
  kind : Int
  thread : Int
  number : Int
  op : Oq
  event : Ev
  value : Int
  err : Int
structure Gs where
  objects : Int
  model : Ms
  threads : List Th
  entries : List En

def op0 : Oq := ⟨0, 0, 0⟩
def ev0 : Ev := ⟨0, 0, 0, 0, 0⟩
def th0 : Th := ⟨op0, 0, false, 0, ev0⟩

def commitOf (k : Int) : Int :=
  if k = 1 then 1 else if k = 2 then 2 else if k = 3 then 3 else if k = 4 then 6 else if k = 5 then 8 else if k = 6 then 9 else if k = 7 then 10 else if k = 8 then 11 else if k = 9 then 12 else 0

/-- Whether an operation may be, of so many objects and threads. -/
def mayOp (objects threads : Int) (o : Oq) : Bool :=
  if (commitOf o.kind == 0 || decide (o.obj < 0) || decide (o.obj ≥ objects) || decide (o.arg < 0)) = true then false
  else if o.kind = 9 then decide (o.arg < threads)
  else if o.kind = 4 then true
  else o.arg == 0

def En.bare (e : En) : Bool :=
  if e.kind = 1 then (e.event.kind == 0 && e.event.thread == 0 && e.event.obj == 0 && e.event.arg == 0 && e.event.err == 0 && e.value == 0 && e.err == 0)
  else if e.kind = 2 then (e.thread == e.event.thread && e.number == 0 && e.op.kind == 0 && e.op.obj == 0 && e.op.arg == 0 && e.value == 0 && e.err == 0)
  else if e.kind = 3 then (e.op.kind == 0 && e.op.obj == 0 && e.op.arg == 0 && e.event.kind == 0 && e.event.thread == 0 && e.event.obj == 0 && e.event.arg == 0 && e.event.err == 0)
  else false

def Th.of (t : Th) (e : Ev) : Bool := if t.op.kind = 9 then e.obj == 0 && e.arg == t.op.arg else e.obj == t.op.obj
def Th.waits (t : Th) (e : Ev) : Bool :=
  if t.many = 0 then e.kind == 4
  else if (t.last.kind == 4 && t.last.err == 0) = true then e.kind == 5 || e.kind == 6
  else t.last.kind == 5 && e.kind == 6
def Th.tells (t : Th) (e : Ev) : Bool :=
  if (decide (t.many > 0) && t.last.kind != 7) = true then false
  else if e.kind = 7 then t.op.kind == 6 || !decide (t.many > 0)
  else if (e.kind != commitOf t.op.kind) = true then false
  else if t.op.kind = 6 then true
  else if t.many > 0 then e.arg == t.last.arg
  else e.arg == -1
def Th.takes (t : Th) (e : Ev) : Bool :=
  if (!t.opn || !t.of e) = true then false
  else if t.op.kind = 4 then t.waits e
  else if t.op.kind = 5 ∨ t.op.kind = 6 then t.tells e
  else t.many == 0 && e.kind == commitOf t.op.kind
def Th.told (t : Th) : Int × Int × Bool :=
  if (!t.opn || t.many == 0) = true then (0, 0, false)
  else if t.op.kind = 4 then (0, t.last.err, t.last.kind == commitOf t.op.kind || t.last.kind == 4 && t.last.err != 0)
  else if t.op.kind = 6 then (IntKind.wrap .i64 (t.many - 1), t.last.err, t.last.kind == commitOf t.op.kind)
  else if t.op.kind = 5 ∨ t.op.kind = 7 ∨ t.op.kind = 8 then (t.last.arg, t.last.err, t.last.kind == commitOf t.op.kind)
  else (0, t.last.err, t.last.kind == commitOf t.op.kind)

namespace Gs
def th (g : Gs) (t : Int) : Th := g.threads.getD t.toNat th0
def setTh (g : Gs) (t : Int) (x : Th) : Gs := { g with threads := g.threads.set t.toNat x }
def fits (g : Gs) (e : En) : Bool := e.bare && !decide (e.thread < 0) && !decide (e.thread ≥ (g.threads.length : Int))
/-- What an entry does; none: it is refused. -/
def turn (g : Gs) (e : En) : Option Gs :=
  if g.fits e = false then none
  else if e.kind = 1 then
    (if ((g.th e.thread).opn || e.number != (g.th e.thread).calls || !mayOp g.objects g.threads.length e.op) = true then none
     else some (g.setTh e.thread ⟨e.op, IntKind.wrap .i64 ((g.th e.thread).calls + 1), true, 0, ev0⟩))
  else if e.kind = 2 then
    (if (!(g.th e.thread).takes e.event || g.model.code e.event != 0) = true then none
     else some { (g.setTh e.thread { g.th e.thread with many := IntKind.wrap .i64 ((g.th e.thread).many + 1), last := e.event }) with model := g.model.next e.event })
  else if e.kind = 3 then
    (if (!(g.th e.thread).told.2.2 || e.number != IntKind.wrap .i64 ((g.th e.thread).calls - 1) || e.value != (g.th e.thread).told.1 || e.err != (g.th e.thread).told.2.1) = true then none
     else some (g.setTh e.thread ⟨op0, (g.th e.thread).calls, false, 0, ev0⟩))
  else some g
def add (g : Gs) (e : En) : Option Gs := (g.turn e).map fun g' => { g' with entries := g'.entries ++ [e] }
def next (g : Gs) (e : En) : Gs := (g.add e).getD g
def code (g : Gs) (e : En) : Int := if (g.add e).isSome then 0 else 15
end Gs
def Gs.new (t o c : Int) : Gs := ⟨o, Ms.new t o c, List.replicate t.toNat th0, []⟩

end Go.Gh

/- The readings of some functions, printed by a program of the session (wip/tools/sx.py): each by one equation that the kernel reckons. -/
set_option linter.unusedVariables false
namespace Go.Proofs.Ytnnedfhpicdacaa
open Go Go.Sx Go.Proofs
theorem mix : Try.prog.follows .mixedOrders = true := Checked.mixed Try.checked
/-- futtock/model.in -/
def A_model_in : Ann := .seq (.leaf) (.seq (.leaf) (.leaf))
def P_model_in (a0 : Int) (a1 : Int) (a2 : Int) (h : PH) (Q : Value → PH → Prop) : Prop :=
 xSc (decide ((a1 : Int) ≤ a0)) true (fun J_1 =>
 J_1 (decide ((a0 : Int) ≤ a2)) h)
 (fun r14 h_1 =>
 Q (.bool r14) h_1) h
theorem P_model_in_eq (a0 : Int) (a1 : Int) (a2 : Int) (h : PH) (Q : Value → PH → Prop) : dFn Try.prog Try.f45 A_model_in #[(.int .i64 a0), (.int .i64 a1), (.int .i64 a2)] h Q = P_model_in a0 a1 a2 h Q := by kernel_rfl
theorem P_model_in_of {a0 : Int} {a1 : Int} {a2 : Int} {h : PH} {Q : Value → PH → Prop} (x : P_model_in a0 a1 a2 h Q) : Meets Try.prog 45 #[(.int .i64 a0), (.int .i64 a1), (.int .i64 a2)] h Q :=
  spec_of Try.func45 mix (by kernel_rfl) ((P_model_in_eq a0 a1 a2 h Q).symm ▸ x)
/-- (*futtock/model.Model).ok -/
def A_model_Model_ok : Ann := .seq (.leaf) (.seq (.leaf) (.leaf))
def P_model_Model_ok (a0 : Option Addr) (h : PH) (Q : Value → PH → Prop) : Prop :=
 xSc (!(Option.isNone a0)) true (fun J_1 =>
 xNn a0 fun x7 =>
 oM (h.cell (x7.add 3)) fun x9 =>
 J_1 (!(Option.isNone x9)) h)
 (fun r11 h_1 =>
 Q (.bool r11) h_1) h
theorem P_model_Model_ok_eq (a0 : Option Addr) (h : PH) (Q : Value → PH → Prop) : dFn Try.prog Try.f46 A_model_Model_ok #[(.pointer a0)] h Q = P_model_Model_ok a0 h Q := by kernel_rfl
theorem P_model_Model_ok_of {a0 : Option Addr} {h : PH} {Q : Value → PH → Prop} (x : P_model_Model_ok a0 h Q) : Meets Try.prog 46 #[(.pointer a0)] h Q :=
  spec_of Try.func46 mix (by kernel_rfl) ((P_model_Model_ok_eq a0 h Q).symm ▸ x)
/-- (*futtock/model.Model).isThread -/
def A_model_Model_isThread : Ann := .seq (.leaf) (.seq (.leaf) (.leaf))
def P_model_Model_isThread (a0 : Option Addr) (a1 : Int) (h : PH) (Q : Value → PH → Prop) : Prop :=
 xNn a0 fun x7 =>
 oS (h.cell (x7.add 2)) fun x9a x9l x9c =>
 Meets Try.prog 45 #[(.int .i64 a1), (.int .i64 0), (.int .i64 (IntKind.wrap .i64 (((x9l : Nat) : Int) - 1)))] h fun v12 h_1 =>
 oB (some v12) fun x12 =>
 Q (.bool x12) h_1
theorem P_model_Model_isThread_eq (a0 : Option Addr) (a1 : Int) (h : PH) (Q : Value → PH → Prop) : dFn Try.prog Try.f57 A_model_Model_isThread #[(.pointer a0), (.int .i64 a1)] h Q = P_model_Model_isThread a0 a1 h Q := by kernel_rfl
theorem P_model_Model_isThread_of {a0 : Option Addr} {a1 : Int} {h : PH} {Q : Value → PH → Prop} (x : P_model_Model_isThread a0 a1 h Q) : Meets Try.prog 57 #[(.pointer a0), (.int .i64 a1)] h Q :=
  spec_of Try.func57 mix (by kernel_rfl) ((P_model_Model_isThread_eq a0 a1 h Q).symm ▸ x)
/-- (*futtock/model.Model).owns -/
def A_model_Model_owns : Ann := .seq (.leaf) (.seq (.draw [(0, .flt), (1, .flt), (2, .flt), (3, .flt), (4, .flt), (5, .flt), (6, .flt), (7, .flt), (8, .flt), (9, .flt), (10, .flt), (11, .flt), (12, .flt)]) (.leaf))
def P_model_Model_owns (a0 : Option Addr) (a1_0 : Int) (a1_1 : Int) (a1_2 : Int) (a1_3 : Int) (a1_4 : Int) (h : PH) (Q : Value → PH → Prop) : Prop :=
 xNew h (.cells #[(.int .i64 a1_0), (.int .i64 a1_1), (.int .i64 a1_2), (.int .i64 a1_3), (.int .i64 a1_4)] 33 (0, 0)) fun b3 h_1 =>
 xDraw h_1 fun hs_1 =>
 xNn a0 fun x6 =>
 oS (hs_1.cell (x6.add 1)) fun x8a x8l x8c =>
 oI .i64 (hs_1.cell ((⟨b3, 0, none⟩ : Addr).add 2)) fun x10 =>
 xIdx x8a x8l x10 3 fun x11 =>
 oI .i64 (hs_1.cell (x11.add 0)) fun x13 =>
 oI .i64 (hs_1.cell ((⟨b3, 0, none⟩ : Addr).add 1)) fun x15 =>
 Q (.bool (x13 == x15)) h_1
theorem P_model_Model_owns_eq (a0 : Option Addr) (a1_0 : Int) (a1_1 : Int) (a1_2 : Int) (a1_3 : Int) (a1_4 : Int) (h : PH) (Q : Value → PH → Prop) : dFn Try.prog Try.f104 A_model_Model_owns #[(.pointer a0), (.agg #[(.int .i64 a1_0), (.int .i64 a1_1), (.int .i64 a1_2), (.int .i64 a1_3), (.int .i64 a1_4)])] h Q = P_model_Model_owns a0 a1_0 a1_1 a1_2 a1_3 a1_4 h Q := by kernel_rfl
theorem P_model_Model_owns_of {a0 : Option Addr} {a1_0 : Int} {a1_1 : Int} {a1_2 : Int} {a1_3 : Int} {a1_4 : Int} {h : PH} {Q : Value → PH → Prop} (x : P_model_Model_owns a0 a1_0 a1_1 a1_2 a1_3 a1_4 h Q) : Meets Try.prog 104 #[(.pointer a0), (.agg #[(.int .i64 a1_0), (.int .i64 a1_1), (.int .i64 a1_2), (.int .i64 a1_3), (.int .i64 a1_4)])] h Q :=
  spec_of Try.func104 mix (by kernel_rfl) ((P_model_Model_owns_eq a0 a1_0 a1_1 a1_2 a1_3 a1_4 h Q).symm ▸ x)
/-- (*futtock/model.Model).others -/
def A_model_Model_others : Ann := .seq (.leaf) (.seq (.draw [(0, .flt), (1, .flt), (2, .eff), (3, .flt), (4, .flt), (5, .flt), (6, .flt), (7, .flt), (8, .flt), (9, .flt), (10, .flt), (11, .flt), (12, .flt), (13, .flt), (14, .flt), (15, .flt), (16, .flt)]) (.leaf))
def P_model_Model_others (a0 : Option Addr) (a1_0 : Int) (a1_1 : Int) (a1_2 : Int) (a1_3 : Int) (a1_4 : Int) (h : PH) (Q : Value → PH → Prop) : Prop :=
 xNew h (.cells #[(.int .i64 a1_0), (.int .i64 a1_1), (.int .i64 a1_2), (.int .i64 a1_3), (.int .i64 a1_4)] 33 (0, 0)) fun b3 h_1 =>
 xDraw h_1 fun hs_1 =>
 oI .i64 (hs_1.cell ((⟨b3, 0, none⟩ : Addr).add 0)) fun x6_0 =>
 oI .i64 (hs_1.cell ((⟨b3, 0, none⟩ : Addr).add 1)) fun x6_1 =>
 oI .i64 (hs_1.cell ((⟨b3, 0, none⟩ : Addr).add 2)) fun x6_2 =>
 oI .i64 (hs_1.cell ((⟨b3, 0, none⟩ : Addr).add 3)) fun x6_3 =>
 oI .i64 (hs_1.cell ((⟨b3, 0, none⟩ : Addr).add 4)) fun x6_4 =>
 Meets Try.prog 104 #[(.pointer a0), (.agg #[(.int .i64 x6_0), (.int .i64 x6_1), (.int .i64 x6_2), (.int .i64 x6_3), (.int .i64 x6_4)])] h_1 fun v7 h_2 =>
 oB (some v7) fun x7 =>
 PH.le hs_1 h_2 ∧
 xSc (!x7) true (fun J_1 =>
 xNn a0 fun x11 =>
 oS (hs_1.cell (x11.add 1)) fun x13a x13l x13c =>
 oI .i64 (hs_1.cell ((⟨b3, 0, none⟩ : Addr).add 2)) fun x15 =>
 xIdx x13a x13l x15 3 fun x16 =>
 oI .i64 (hs_1.cell (x16.add 0)) fun x18 =>
 J_1 (x18 != (-1)) h_2)
 (fun r20 h_3 =>
 Q (.bool r20) h_3) h_2
theorem P_model_Model_others_eq (a0 : Option Addr) (a1_0 : Int) (a1_1 : Int) (a1_2 : Int) (a1_3 : Int) (a1_4 : Int) (h : PH) (Q : Value → PH → Prop) : dFn Try.prog Try.f103 A_model_Model_others #[(.pointer a0), (.agg #[(.int .i64 a1_0), (.int .i64 a1_1), (.int .i64 a1_2), (.int .i64 a1_3), (.int .i64 a1_4)])] h Q = P_model_Model_others a0 a1_0 a1_1 a1_2 a1_3 a1_4 h Q := by kernel_rfl
theorem P_model_Model_others_of {a0 : Option Addr} {a1_0 : Int} {a1_1 : Int} {a1_2 : Int} {a1_3 : Int} {a1_4 : Int} {h : PH} {Q : Value → PH → Prop} (x : P_model_Model_others a0 a1_0 a1_1 a1_2 a1_3 a1_4 h Q) : Meets Try.prog 103 #[(.pointer a0), (.agg #[(.int .i64 a1_0), (.int .i64 a1_1), (.int .i64 a1_2), (.int .i64 a1_3), (.int .i64 a1_4)])] h Q :=
  spec_of Try.func103 mix (by kernel_rfl) ((P_model_Model_others_eq a0 a1_0 a1_1 a1_2 a1_3 a1_4 h Q).symm ▸ x)
/-- (*futtock/model.Model).gone -/
def A_model_Model_gone : Ann := .seq (.leaf) (.seq (.seq (.leaf) (.block [] (.loop [(15, (.int .i64))] (.seq (.leaf) (.seq (.cond [] (.leaf) (.leaf)) (.seq (.block [] (.seq (.leaf) (.seq (.leaf) (.seq (.leaf) (.seq (.leaf) (.cond [] (.seq (.leaf) (.leaf)) (.leaf))))))) (.leaf))))))) (.seq (.leaf) (.leaf)))
def P_model_Model_gone (a0 : Option Addr) (a1 : Int) (h : PH) (Q : Value → PH → Prop) : Prop :=
 xNn a0 fun x11 =>
 oS (h.cell (x11.add 1)) fun x13a x13l x13c =>
 xBlk (fun J_1 =>
 ∃ n, xLoopN (fun _ _ => False) (fun J_2 =>
 (fun (x15 : Int) (h_1 : PH) =>
 xIte (decide ((x15 : Int) < ((x13l : Nat) : Int))) (fun J_3 =>
 J_3 h_1)
 (fun J_3 =>
 J_1 h_1)
 (fun  (h_2 : PH) =>
 xBlk (fun J_4 =>
 xNn a0 fun x20 =>
 oM (h_2.cell (x20.add 3)) fun x22 =>
 xLook Try.prog 122 h_2 x22 (.agg #[(.int .i64 x15), (.int .i64 a1)]) fun x26o =>
 oI .i64 (some (Option.getD x26o (.int .i64 0))) fun x26 =>
 oI .i64 (some (.int .i64 x26)) fun x27 =>
 oB (some (.bool (x26o).isSome)) fun x28 =>
 xNn a0 fun x31 =>
 oM (h_2.cell (x31.add 4)) fun x33 =>
 xLook Try.prog 122 h_2 x33 (.agg #[(.int .i64 x15), (.int .i64 a1)]) fun x37o =>
 oAgg (Option.getD x37o (.agg #[(.int .i64 0), (.int .i64 0)])) 2 fun x37cs =>
 oI .i64 x37cs[0]? fun x37_0 =>
 oI .i64 x37cs[1]? fun x37_1 =>
 oAgg (.agg #[(.int .i64 x37_0), (.int .i64 x37_1)]) 2 fun x38cs =>
 oI .i64 x38cs[0]? fun x38_0 =>
 oI .i64 x38cs[1]? fun x38_1 =>
 oB (some (.bool (x37o).isSome)) fun x39 =>
 xNew h_2 (.cells #[(.int .i64 0), (.int .i64 0)] 125 (0, 0)) fun b8 h_3 =>
 xSt 2 h_3 (⟨b8, 0, none⟩ : Addr) [(.int .i64 x38_0), (.int .i64 x38_1)] fun h_4 =>
 xSc x28 false (fun J_5 =>
 J_5 x39 h_4)
 (fun r43 h_5 =>
 xIte r43 (fun J_6 =>
 Q (.bool true) h_5)
 (fun J_6 =>
 J_6 h_5)
 (fun  (h_6 : PH) =>
 J_4 h_6)) h_4)
 (fun  (h_7 : PH) =>
 J_2 (IntKind.wrap .i64 (x15 + 1)) h_7)))) n 0 h)
 (fun  (h_8 : PH) =>
 Q (.bool false) h_8)
theorem P_model_Model_gone_eq (a0 : Option Addr) (a1 : Int) (h : PH) (Q : Value → PH → Prop) : dFn Try.prog Try.f76 A_model_Model_gone #[(.pointer a0), (.int .i64 a1)] h Q = P_model_Model_gone a0 a1 h Q := by kernel_rfl
theorem P_model_Model_gone_of {a0 : Option Addr} {a1 : Int} {h : PH} {Q : Value → PH → Prop} (x : P_model_Model_gone a0 a1 h Q) : Meets Try.prog 76 #[(.pointer a0), (.int .i64 a1)] h Q :=
  spec_of Try.func76 mix (by kernel_rfl) ((P_model_Model_gone_eq a0 a1 h Q).symm ▸ x)
/-- (*futtock/model.Model).may -/
def A_model_Model_may : Ann := .seq (.leaf) (.seq (.draw [(0, .flt), (1, .eff), (2, .flt), (3, .flt), (4, .flt), (5, .flt), (6, .eff), (7, .flt), (8, .flt), (9, .flt), (10, .flt), (11, .flt), (12, .flt), (13, .flt), (14, .flt), (15, .flt), (16, .flt), (17, .eff), (18, .flt), (19, .flt)]) (.seq (.leaf) (.leaf)))
def P_model_Model_may (a0 : Option Addr) (a1_0 : Int) (a1_1 : Int) (a1_2 : Int) (a1_3 : Int) (a1_4 : Int) (h : PH) (Q : Value → PH → Prop) : Prop :=
 xNew h (.cells #[(.int .i64 a1_0), (.int .i64 a1_1), (.int .i64 a1_2), (.int .i64 a1_3), (.int .i64 a1_4)] 33 (0, 0)) fun b3 h_1 =>
 xDraw h_1 fun hs_1 =>
 Meets Try.prog 46 #[(.pointer a0)] h_1 fun v7 h_2 =>
 oB (some v7) fun x7 =>
 PH.le hs_1 h_2 ∧
 xSc x7 true (fun J_1 =>
 oI .i64 (hs_1.cell ((⟨b3, 0, none⟩ : Addr).add 1)) fun x11 =>
 Meets Try.prog 57 #[(.pointer a0), (.int .i64 x11)] h_2 fun v12 h_3 =>
 oB (some v12) fun x12 =>
 PH.le hs_1 h_3 ∧
 J_1 x12 h_3)
 (fun r13 h_4 =>
 xSc r13 true (fun J_2 =>
 oI .i64 (hs_1.cell ((⟨b3, 0, none⟩ : Addr).add 2)) fun x16 =>
 xNn a0 fun x18 =>
 oS (hs_1.cell (x18.add 1)) fun x20a x20l x20c =>
 Meets Try.prog 45 #[(.int .i64 x16), (.int .i64 0), (.int .i64 (IntKind.wrap .i64 (((x20l : Nat) : Int) - 1)))] h_4 fun v23 h_5 =>
 oB (some v23) fun x23 =>
 PH.le hs_1 h_5 ∧
 J_2 x23 h_5)
 (fun r24 h_6 =>
 xSc r24 true (fun J_3 =>
 oI .i64 (h_6.cell ((⟨b3, 0, none⟩ : Addr).add 0)) fun x28 =>
 xSc (x28 == 5) false (fun J_4 =>
 oI .i64 (h_6.cell ((⟨b3, 0, none⟩ : Addr).add 0)) fun x32 =>
 J_4 (x32 == 6) h_6)
 (fun r34 h_7 =>
 xSc r34 false (fun J_5 =>
 oI .i64 (h_7.cell ((⟨b3, 0, none⟩ : Addr).add 1)) fun x38 =>
 Meets Try.prog 76 #[(.pointer a0), (.int .i64 x38)] h_7 fun v39 h_8 =>
 oB (some v39) fun x39 =>
 J_5 (!x39) h_8)
 (fun r41 h_9 =>
 J_3 r41 h_9) h_7) h_6)
 (fun r42 h_10 =>
 Q (.bool r42) h_10) h_6) h_4) h_2
theorem P_model_Model_may_eq (a0 : Option Addr) (a1_0 : Int) (a1_1 : Int) (a1_2 : Int) (a1_3 : Int) (a1_4 : Int) (h : PH) (Q : Value → PH → Prop) : dFn Try.prog Try.f51 A_model_Model_may #[(.pointer a0), (.agg #[(.int .i64 a1_0), (.int .i64 a1_1), (.int .i64 a1_2), (.int .i64 a1_3), (.int .i64 a1_4)])] h Q = P_model_Model_may a0 a1_0 a1_1 a1_2 a1_3 a1_4 h Q := by kernel_rfl
theorem P_model_Model_may_of {a0 : Option Addr} {a1_0 : Int} {a1_1 : Int} {a1_2 : Int} {a1_3 : Int} {a1_4 : Int} {h : PH} {Q : Value → PH → Prop} (x : P_model_Model_may a0 a1_0 a1_1 a1_2 a1_3 a1_4 h Q) : Meets Try.prog 51 #[(.pointer a0), (.agg #[(.int .i64 a1_0), (.int .i64 a1_1), (.int .i64 a1_2), (.int .i64 a1_3), (.int .i64 a1_4)])] h Q :=
  spec_of Try.func51 mix (by kernel_rfl) ((P_model_Model_may_eq a0 a1_0 a1_1 a1_2 a1_3 a1_4 h Q).symm ▸ x)
/-- (*futtock/model.Model).enter -/
def A_model_Model_enter : Ann := .seq (.leaf) (.seq (.draw [(0, .flt), (1, .flt), (2, .flt), (3, .flt), (4, .flt), (5, .flt), (6, .flt), (7, .flt)]) (.seq (.seq (.leaf) (.block [] (.seq (.leaf) (.cond [] (.seq (.seq (.draw [(0, .flt), (1, .flt), (2, .eff), (3, .flt), (4, .flt), (5, .flt), (6, .flt), (7, .flt), (8, .flt), (9, .flt), (10, .flt), (11, .flt), (12, .flt), (13, .flt)]) (.cond [] (.seq (.leaf) (.leaf)) (.leaf))) (.seq (.leaf) (.seq (.leaf) (.seq (.leaf) (.leaf))))) (.seq (.leaf) (.cond [] (.seq (.draw [(0, .flt), (1, .flt), (2, .eff), (3, .flt), (4, .flt), (5, .flt), (6, .flt), (7, .flt), (8, .flt), (9, .flt), (10, .flt), (11, .flt), (12, .flt), (13, .flt), (14, .flt)]) (.leaf)) (.seq (.leaf) (.cond [] (.seq (.leaf) (.leaf)) (.seq (.leaf) (.cond [] (.seq (.leaf) (.leaf)) (.leaf))))))))))) (.seq (.leaf) (.leaf))))
def P_model_Model_enter (a0 : Option Addr) (a1_0 : Int) (a1_1 : Int) (a1_2 : Int) (a1_3 : Int) (a1_4 : Int) (h : PH) (Q : Value → PH → Prop) : Prop :=
 xNew h (.cells #[(.int .i64 a1_0), (.int .i64 a1_1), (.int .i64 a1_2), (.int .i64 a1_3), (.int .i64 a1_4)] 33 (0, 0)) fun b3 h_1 =>
 xDraw h_1 fun hs_1 =>
 xNn a0 fun x7 =>
 oS (hs_1.cell (x7.add 1)) fun x9a x9l x9c =>
 oI .i64 (hs_1.cell ((⟨b3, 0, none⟩ : Addr).add 2)) fun x11 =>
 xIdx x9a x9l x11 3 fun x12 =>
 oI .i64 (h_1.cell ((⟨b3, 0, none⟩ : Addr).add 4)) fun x14 =>
 xBlk (fun J_1 =>
 xIte (x14 == 0) (fun J_2 =>
 xDraw h_1 fun hs_2 =>
 oI .i64 (hs_2.cell ((⟨b3, 0, none⟩ : Addr).add 0)) fun x18_0 =>
 oI .i64 (hs_2.cell ((⟨b3, 0, none⟩ : Addr).add 1)) fun x18_1 =>
 oI .i64 (hs_2.cell ((⟨b3, 0, none⟩ : Addr).add 2)) fun x18_2 =>
 oI .i64 (hs_2.cell ((⟨b3, 0, none⟩ : Addr).add 3)) fun x18_3 =>
 oI .i64 (hs_2.cell ((⟨b3, 0, none⟩ : Addr).add 4)) fun x18_4 =>
 Meets Try.prog 103 #[(.pointer a0), (.agg #[(.int .i64 x18_0), (.int .i64 x18_1), (.int .i64 x18_2), (.int .i64 x18_3), (.int .i64 x18_4)])] h_1 fun v19 h_2 =>
 oB (some v19) fun x19 =>
 PH.le hs_2 h_2 ∧
 xSc x19 false (fun J_3 =>
 xNn (some x12) fun x22 =>
 oI .i64 (hs_2.cell (x22.add 1)) fun x24 =>
 xNn a0 fun x26 =>
 oI .i64 (hs_2.cell (x26.add 0)) fun x28 =>
 J_3 (x24 == x28) h_2)
 (fun r30 h_3 =>
 xIte r30 (fun J_4 =>
 Q (.bool false) h_3)
 (fun J_4 =>
 J_4 h_3)
 (fun  (h_4 : PH) =>
 oI .i64 (h_4.cell ((⟨b3, 0, none⟩ : Addr).add 1)) fun x33 =>
 xNn (some x12) fun x34 =>
 xSt 1 h_4 (x34.add 0) [(.int .i64 x33)] fun h_5 =>
 xNn (some x12) fun x37 =>
 oI .i64 (h_5.cell (x37.add 1)) fun x39 =>
 xNn (some x12) fun x41 =>
 xSt 1 h_5 (x41.add 1) [(.int .i64 (IntKind.wrap .i64 (x39 + 1)))] fun h_6 =>
 Q (.bool true) h_6)) h_2)
 (fun J_2 =>
 xIte (x14 == 10) (fun J_5 =>
 xDraw h_1 fun hs_3 =>
 oI .i64 (hs_3.cell ((⟨b3, 0, none⟩ : Addr).add 0)) fun x46_0 =>
 oI .i64 (hs_3.cell ((⟨b3, 0, none⟩ : Addr).add 1)) fun x46_1 =>
 oI .i64 (hs_3.cell ((⟨b3, 0, none⟩ : Addr).add 2)) fun x46_2 =>
 oI .i64 (hs_3.cell ((⟨b3, 0, none⟩ : Addr).add 3)) fun x46_3 =>
 oI .i64 (hs_3.cell ((⟨b3, 0, none⟩ : Addr).add 4)) fun x46_4 =>
 Meets Try.prog 104 #[(.pointer a0), (.agg #[(.int .i64 x46_0), (.int .i64 x46_1), (.int .i64 x46_2), (.int .i64 x46_3), (.int .i64 x46_4)])] h_1 fun v47 h_7 =>
 oB (some v47) fun x47 =>
 PH.le hs_3 h_7 ∧
 xSc x47 true (fun J_6 =>
 xNn (some x12) fun x50 =>
 oI .i64 (hs_3.cell (x50.add 1)) fun x52 =>
 xNn a0 fun x54 =>
 oI .i64 (hs_3.cell (x54.add 0)) fun x56 =>
 J_6 (x52 == x56) h_7)
 (fun r58 h_8 =>
 Q (.bool r58) h_8) h_7)
 (fun J_5 =>
 xIte (x14 == 11) (fun J_7 =>
 oI .i64 (h_1.cell ((⟨b3, 0, none⟩ : Addr).add 0)) fun x62 =>
 xSc (x62 == 1) true (fun J_8 =>
 oI .i64 (h_1.cell ((⟨b3, 0, none⟩ : Addr).add 0)) fun x66_0 =>
 oI .i64 (h_1.cell ((⟨b3, 0, none⟩ : Addr).add 1)) fun x66_1 =>
 oI .i64 (h_1.cell ((⟨b3, 0, none⟩ : Addr).add 2)) fun x66_2 =>
 oI .i64 (h_1.cell ((⟨b3, 0, none⟩ : Addr).add 3)) fun x66_3 =>
 oI .i64 (h_1.cell ((⟨b3, 0, none⟩ : Addr).add 4)) fun x66_4 =>
 Meets Try.prog 103 #[(.pointer a0), (.agg #[(.int .i64 x66_0), (.int .i64 x66_1), (.int .i64 x66_2), (.int .i64 x66_3), (.int .i64 x66_4)])] h_1 fun v67 h_9 =>
 oB (some v67) fun x67 =>
 J_8 x67 h_9)
 (fun r68 h_10 =>
 Q (.bool r68) h_10) h_1)
 (fun J_7 =>
 xIte (x14 == 14) (fun J_9 =>
 oI .i64 (h_1.cell ((⟨b3, 0, none⟩ : Addr).add 0)) fun x72 =>
 xSc (x72 == 2) true (fun J_10 =>
 oI .i64 (h_1.cell ((⟨b3, 0, none⟩ : Addr).add 0)) fun x76_0 =>
 oI .i64 (h_1.cell ((⟨b3, 0, none⟩ : Addr).add 1)) fun x76_1 =>
 oI .i64 (h_1.cell ((⟨b3, 0, none⟩ : Addr).add 2)) fun x76_2 =>
 oI .i64 (h_1.cell ((⟨b3, 0, none⟩ : Addr).add 3)) fun x76_3 =>
 oI .i64 (h_1.cell ((⟨b3, 0, none⟩ : Addr).add 4)) fun x76_4 =>
 Meets Try.prog 103 #[(.pointer a0), (.agg #[(.int .i64 x76_0), (.int .i64 x76_1), (.int .i64 x76_2), (.int .i64 x76_3), (.int .i64 x76_4)])] h_1 fun v77 h_11 =>
 oB (some v77) fun x77 =>
 J_10 x77 h_11)
 (fun r78 h_12 =>
 Q (.bool r78) h_12) h_1)
 (fun J_9 =>
 J_9 h_1)
 (fun  (h_13 : PH) =>
 J_7 h_13))
 (fun  (h_14 : PH) =>
 J_5 h_14))
 (fun  (h_15 : PH) =>
 J_2 h_15))
 (fun  (h_16 : PH) =>
 J_1 h_16))
 (fun  (h_17 : PH) =>
 Q (.bool false) h_17)
theorem P_model_Model_enter_eq (a0 : Option Addr) (a1_0 : Int) (a1_1 : Int) (a1_2 : Int) (a1_3 : Int) (a1_4 : Int) (h : PH) (Q : Value → PH → Prop) : dFn Try.prog Try.f77 A_model_Model_enter #[(.pointer a0), (.agg #[(.int .i64 a1_0), (.int .i64 a1_1), (.int .i64 a1_2), (.int .i64 a1_3), (.int .i64 a1_4)])] h Q = P_model_Model_enter a0 a1_0 a1_1 a1_2 a1_3 a1_4 h Q := by kernel_rfl
theorem P_model_Model_enter_of {a0 : Option Addr} {a1_0 : Int} {a1_1 : Int} {a1_2 : Int} {a1_3 : Int} {a1_4 : Int} {h : PH} {Q : Value → PH → Prop} (x : P_model_Model_enter a0 a1_0 a1_1 a1_2 a1_3 a1_4 h Q) : Meets Try.prog 77 #[(.pointer a0), (.agg #[(.int .i64 a1_0), (.int .i64 a1_1), (.int .i64 a1_2), (.int .i64 a1_3), (.int .i64 a1_4)])] h Q :=
  spec_of Try.func77 mix (by kernel_rfl) ((P_model_Model_enter_eq a0 a1_0 a1_1 a1_2 a1_3 a1_4 h Q).symm ▸ x)
/-- (*futtock/model.Model).exit -/
def A_model_Model_exit : Ann := .seq (.leaf) (.seq (.draw [(0, .flt), (1, .flt), (2, .flt), (3, .flt), (4, .flt), (5, .flt), (6, .flt), (7, .flt)]) (.seq (.block [] (.seq (.leaf) (.cond [] (.seq (.leaf) (.leaf)) (.seq (.leaf) (.cond [] (.seq (.leaf) (.leaf)) (.leaf)))))) (.seq (.seq (.leaf) (.seq (.leaf) (.cond [] (.leaf) (.leaf)))) (.seq (.leaf) (.leaf)))))
def P_model_Model_exit (a0 : Option Addr) (a1_0 : Int) (a1_1 : Int) (a1_2 : Int) (a1_3 : Int) (a1_4 : Int) (h : PH) (Q : Value → PH → Prop) : Prop :=
 xNew h (.cells #[(.int .i64 a1_0), (.int .i64 a1_1), (.int .i64 a1_2), (.int .i64 a1_3), (.int .i64 a1_4)] 33 (0, 0)) fun b3 h_1 =>
 xDraw h_1 fun hs_1 =>
 xNn a0 fun x7 =>
 oS (hs_1.cell (x7.add 1)) fun x9a x9l x9c =>
 oI .i64 (hs_1.cell ((⟨b3, 0, none⟩ : Addr).add 2)) fun x11 =>
 xIdx x9a x9l x11 3 fun x12 =>
 xBlk (fun J_1 =>
 oI .i64 (h_1.cell ((⟨b3, 0, none⟩ : Addr).add 4)) fun x15 =>
 xIte (x15 == 9) (fun J_2 =>
 oI .i64 (h_1.cell ((⟨b3, 0, none⟩ : Addr).add 0)) fun x18_0 =>
 oI .i64 (h_1.cell ((⟨b3, 0, none⟩ : Addr).add 1)) fun x18_1 =>
 oI .i64 (h_1.cell ((⟨b3, 0, none⟩ : Addr).add 2)) fun x18_2 =>
 oI .i64 (h_1.cell ((⟨b3, 0, none⟩ : Addr).add 3)) fun x18_3 =>
 oI .i64 (h_1.cell ((⟨b3, 0, none⟩ : Addr).add 4)) fun x18_4 =>
 Meets Try.prog 104 #[(.pointer a0), (.agg #[(.int .i64 x18_0), (.int .i64 x18_1), (.int .i64 x18_2), (.int .i64 x18_3), (.int .i64 x18_4)])] h_1 fun v19 h_2 =>
 oB (some v19) fun x19 =>
 Q (.bool (!x19)) h_2)
 (fun J_2 =>
 oI .i64 (h_1.cell ((⟨b3, 0, none⟩ : Addr).add 4)) fun x23 =>
 xSc (x23 != 0) false (fun J_3 =>
 oI .i64 (h_1.cell ((⟨b3, 0, none⟩ : Addr).add 0)) fun x27_0 =>
 oI .i64 (h_1.cell ((⟨b3, 0, none⟩ : Addr).add 1)) fun x27_1 =>
 oI .i64 (h_1.cell ((⟨b3, 0, none⟩ : Addr).add 2)) fun x27_2 =>
 oI .i64 (h_1.cell ((⟨b3, 0, none⟩ : Addr).add 3)) fun x27_3 =>
 oI .i64 (h_1.cell ((⟨b3, 0, none⟩ : Addr).add 4)) fun x27_4 =>
 Meets Try.prog 104 #[(.pointer a0), (.agg #[(.int .i64 x27_0), (.int .i64 x27_1), (.int .i64 x27_2), (.int .i64 x27_3), (.int .i64 x27_4)])] h_1 fun v28 h_3 =>
 oB (some v28) fun x28 =>
 J_3 (!x28) h_3)
 (fun r30 h_4 =>
 xIte r30 (fun J_4 =>
 Q (.bool false) h_4)
 (fun J_4 =>
 J_4 h_4)
 (fun  (h_5 : PH) =>
 J_2 h_5)) h_1)
 (fun  (h_6 : PH) =>
 J_1 h_6))
 (fun  (h_7 : PH) =>
 xNn (some x12) fun x32 =>
 oI .i64 (h_7.cell (x32.add 1)) fun x34 =>
 xNn (some x12) fun x36 =>
 xSt 1 h_7 (x36.add 1) [(.int .i64 (IntKind.wrap .i64 (x34 - 1)))] fun h_8 =>
 xNn (some x12) fun x39 =>
 oI .i64 (h_8.cell (x39.add 1)) fun x41 =>
 xIte (x41 == 0) (fun J_5 =>
 xNn (some x12) fun x44 =>
 xSt 1 h_8 (x44.add 0) [(.int .i64 (-1))] fun h_9 =>
 J_5 h_9)
 (fun J_5 =>
 J_5 h_8)
 (fun  (h_10 : PH) =>
 Q (.bool true) h_10))
theorem P_model_Model_exit_eq (a0 : Option Addr) (a1_0 : Int) (a1_1 : Int) (a1_2 : Int) (a1_3 : Int) (a1_4 : Int) (h : PH) (Q : Value → PH → Prop) : dFn Try.prog Try.f78 A_model_Model_exit #[(.pointer a0), (.agg #[(.int .i64 a1_0), (.int .i64 a1_1), (.int .i64 a1_2), (.int .i64 a1_3), (.int .i64 a1_4)])] h Q = P_model_Model_exit a0 a1_0 a1_1 a1_2 a1_3 a1_4 h Q := by kernel_rfl
theorem P_model_Model_exit_of {a0 : Option Addr} {a1_0 : Int} {a1_1 : Int} {a1_2 : Int} {a1_3 : Int} {a1_4 : Int} {h : PH} {Q : Value → PH → Prop} (x : P_model_Model_exit a0 a1_0 a1_1 a1_2 a1_3 a1_4 h Q) : Meets Try.prog 78 #[(.pointer a0), (.agg #[(.int .i64 a1_0), (.int .i64 a1_1), (.int .i64 a1_2), (.int .i64 a1_3), (.int .i64 a1_4)])] h Q :=
  spec_of Try.func78 mix (by kernel_rfl) ((P_model_Model_exit_eq a0 a1_0 a1_1 a1_2 a1_3 a1_4 h Q).symm ▸ x)
/-- (*futtock/model.Model).begin -/
def A_model_Model_begin : Ann := .seq (.leaf) (.seq (.draw [(0, .flt), (1, .flt), (2, .flt), (3, .flt), (4, .flt), (5, .flt), (6, .flt), (7, .flt)]) (.seq (.draw [(0, .flt), (1, .flt), (3, .flt), (4, .flt), (5, .flt), (6, .flt), (7, .flt), (8, .flt), (9, .flt), (10, .flt), (2, .eff), (11, .flt), (12, .flt)]) (.seq (.seq (.leaf) (.block [] (.seq (.leaf) (.cond [] (.seq (.leaf) (.leaf)) (.seq (.leaf) (.cond [] (.seq (.leaf) (.leaf)) (.seq (.leaf) (.cond [] (.seq (.seq (.leaf) (.cond [] (.draw [(0, .flt), (1, .flt), (2, .flt), (3, .flt), (4, .flt), (5, .flt), (6, .flt), (7, .brk)]) (.leaf))) (.seq (.leaf) (.leaf))) (.seq (.leaf) (.cond [] (.seq (.seq (.leaf) (.cond [] (.seq (.leaf) (.leaf)) (.leaf))) (.seq (.draw [(0, .flt), (1, .flt), (2, .flt), (3, .flt), (4, .flt), (5, .flt), (6, .flt), (7, .flt), (8, .flt), (9, .flt), (10, .flt), (11, .flt), (12, .flt), (13, .brk)]) (.seq (.leaf) (.seq (.leaf) (.leaf))))) (.leaf))))))))))) (.seq (.leaf) (.leaf)))))
def P_model_Model_begin (a0 : Option Addr) (a1_0 : Int) (a1_1 : Int) (a1_2 : Int) (a1_3 : Int) (a1_4 : Int) (h : PH) (Q : Value → PH → Prop) : Prop :=
 xNew h (.cells #[(.int .i64 a1_0), (.int .i64 a1_1), (.int .i64 a1_2), (.int .i64 a1_3), (.int .i64 a1_4)] 33 (0, 0)) fun b3 h_1 =>
 xDraw h_1 fun hs_1 =>
 xNn a0 fun x9 =>
 oS (hs_1.cell (x9.add 1)) fun x11a x11l x11c =>
 oI .i64 (hs_1.cell ((⟨b3, 0, none⟩ : Addr).add 2)) fun x13 =>
 xIdx x11a x11l x13 3 fun x14 =>
 xDraw h_1 fun hs_2 =>
 oI .i64 (hs_2.cell ((⟨b3, 0, none⟩ : Addr).add 0)) fun x16_0 =>
 oI .i64 (hs_2.cell ((⟨b3, 0, none⟩ : Addr).add 1)) fun x16_1 =>
 oI .i64 (hs_2.cell ((⟨b3, 0, none⟩ : Addr).add 2)) fun x16_2 =>
 oI .i64 (hs_2.cell ((⟨b3, 0, none⟩ : Addr).add 3)) fun x16_3 =>
 oI .i64 (hs_2.cell ((⟨b3, 0, none⟩ : Addr).add 4)) fun x16_4 =>
 xNn a0 fun x19 =>
 oS (hs_2.cell (x19.add 2)) fun x21a x21l x21c =>
 oI .i64 (hs_2.cell ((⟨b3, 0, none⟩ : Addr).add 1)) fun x23 =>
 xIdx x21a x21l x23 1 fun x24 =>
 oB (hs_2.cell x24) fun x25 =>
 Meets Try.prog 104 #[(.pointer a0), (.agg #[(.int .i64 x16_0), (.int .i64 x16_1), (.int .i64 x16_2), (.int .i64 x16_3), (.int .i64 x16_4)])] h_1 fun v17 h_2 =>
 oB (some v17) fun x17 =>
 PH.le hs_2 h_2 ∧
 oI .i64 (h_2.cell ((⟨b3, 0, none⟩ : Addr).add 4)) fun x27 =>
 xBlk (fun J_1 =>
 xIte (x27 == 9) (fun J_2 =>
 Q (.bool (!x17)) h_2)
 (fun J_2 =>
 xIte (x27 == 11) (fun J_3 =>
 Q (.bool x17) h_2)
 (fun J_3 =>
 xIte (x27 == 12) (fun J_4 =>
 xSc x17 true (fun J_5 =>
 J_5 x25 h_2)
 (fun r40 h_3 =>
 xIte r40 (fun J_6 =>
 xDraw h_3 fun hs_3 =>
 xNn a0 fun x42 =>
 oS (hs_3.cell (x42.add 2)) fun x44a x44l x44c =>
 oI .i64 (hs_3.cell ((⟨b3, 0, none⟩ : Addr).add 1)) fun x46 =>
 xIdx x44a x44l x46 1 fun x47 =>
 xSt 1 h_3 x47 [(.bool false)] fun h_4 =>
 J_6 h_4)
 (fun J_6 =>
 J_6 h_3)
 (fun  (h_5 : PH) =>
 xSc x17 true (fun J_7 =>
 J_7 x25 h_5)
 (fun r51 h_6 =>
 Q (.bool r51) h_6) h_5)) h_2)
 (fun J_4 =>
 xIte (x27 == 0) (fun J_8 =>
 xIte (!x17) (fun J_9 =>
 Q (.bool false) h_2)
 (fun J_9 =>
 J_9 h_2)
 (fun  (h_7 : PH) =>
 xDraw h_7 fun hs_4 =>
 xNn a0 fun x57 =>
 oM (hs_4.cell (x57.add 3)) fun x59 =>
 oI .i64 (hs_4.cell ((⟨b3, 0, none⟩ : Addr).add 2)) fun x61 =>
 oI .i64 (hs_4.cell ((⟨b3, 0, none⟩ : Addr).add 1)) fun x63 =>
 xNn (some x14) fun x66 =>
 oI .i64 (hs_4.cell (x66.add 1)) fun x68 =>
 xPut Try.prog 122 h_7 x59 (.agg #[(.int .i64 x61), (.int .i64 x63)]) (.int .i64 x68) fun h_8 =>
 xNn (some x14) fun x71 =>
 oI .i64 (h_8.cell (x71.add 2)) fun x73 =>
 xNn (some x14) fun x75 =>
 xSt 3 h_8 x75 [(.int .i64 (-1)), (.int .i64 0), (.int .i64 x73)] fun h_9 =>
 Q (.bool true) h_9))
 (fun J_8 =>
 J_8 h_2)
 (fun  (h_10 : PH) =>
 J_4 h_10))
 (fun  (h_11 : PH) =>
 J_3 h_11))
 (fun  (h_12 : PH) =>
 J_2 h_12))
 (fun  (h_13 : PH) =>
 J_1 h_13))
 (fun  (h_14 : PH) =>
 Q (.bool false) h_14)
theorem P_model_Model_begin_eq (a0 : Option Addr) (a1_0 : Int) (a1_1 : Int) (a1_2 : Int) (a1_3 : Int) (a1_4 : Int) (h : PH) (Q : Value → PH → Prop) : dFn Try.prog Try.f79 A_model_Model_begin #[(.pointer a0), (.agg #[(.int .i64 a1_0), (.int .i64 a1_1), (.int .i64 a1_2), (.int .i64 a1_3), (.int .i64 a1_4)])] h Q = P_model_Model_begin a0 a1_0 a1_1 a1_2 a1_3 a1_4 h Q := by kernel_rfl
theorem P_model_Model_begin_of {a0 : Option Addr} {a1_0 : Int} {a1_1 : Int} {a1_2 : Int} {a1_3 : Int} {a1_4 : Int} {h : PH} {Q : Value → PH → Prop} (x : P_model_Model_begin a0 a1_0 a1_1 a1_2 a1_3 a1_4 h Q) : Meets Try.prog 79 #[(.pointer a0), (.agg #[(.int .i64 a1_0), (.int .i64 a1_1), (.int .i64 a1_2), (.int .i64 a1_3), (.int .i64 a1_4)])] h Q :=
  spec_of Try.func79 mix (by kernel_rfl) ((P_model_Model_begin_eq a0 a1_0 a1_1 a1_2 a1_3 a1_4 h Q).symm ▸ x)
/-- (*futtock/model.Model).leave -/
def A_model_Model_leave : Ann := .seq (.leaf) (.seq (.draw [(0, .flt), (1, .flt), (2, .flt), (3, .flt), (4, .flt), (5, .flt), (6, .flt), (7, .flt), (8, .flt), (9, .flt), (10, .flt)]) (.seq (.seq (.leaf) (.cond [] (.seq (.leaf) (.leaf)) (.leaf))) (.seq (.draw [(0, .flt), (1, .flt), (2, .flt), (3, .flt), (4, .flt), (5, .eff)]) (.seq (.draw [(0, .flt), (1, .flt), (2, .flt), (3, .flt), (4, .flt), (5, .flt), (6, .flt), (7, .flt), (8, .brk)]) (.seq (.leaf) (.leaf))))))
def P_model_Model_leave (a0 : Option Addr) (a1_0 : Int) (a1_1 : Int) (a2 : Int) (h : PH) (Q : Value → PH → Prop) : Prop :=
 xNew h (.cells #[(.int .i64 a1_0), (.int .i64 a1_1)] 122 (0, 0)) fun b4 h_1 =>
 xDraw h_1 fun hs_1 =>
 xNn a0 fun x11 =>
 oM (hs_1.cell (x11.add 3)) fun x13 =>
 oI .i64 (hs_1.cell ((⟨b4, 0, none⟩ : Addr).add 0)) fun x14_0 =>
 oI .i64 (hs_1.cell ((⟨b4, 0, none⟩ : Addr).add 1)) fun x14_1 =>
 xLook Try.prog 122 hs_1 x13 (.agg #[(.int .i64 x14_0), (.int .i64 x14_1)]) fun x15o =>
 oI .i64 (some (Option.getD x15o (.int .i64 0))) fun x15 =>
 oI .i64 (some (.int .i64 x15)) fun x16 =>
 oB (some (.bool (x15o).isSome)) fun x17 =>
 xIte (!x17) (fun J_1 =>
 Q (.bool false) h_1)
 (fun J_1 =>
 J_1 h_1)
 (fun  (h_2 : PH) =>
 xDraw h_2 fun hs_2 =>
 xNn a0 fun x21 =>
 oM (hs_2.cell (x21.add 3)) fun x23 =>
 oI .i64 (hs_2.cell ((⟨b4, 0, none⟩ : Addr).add 0)) fun x24_0 =>
 oI .i64 (hs_2.cell ((⟨b4, 0, none⟩ : Addr).add 1)) fun x24_1 =>
 xDel Try.prog 122 h_2 x23 (.agg #[(.int .i64 x24_0), (.int .i64 x24_1)]) fun h_3 =>
 PH.le hs_2 h_3 ∧
 xDraw h_3 fun hs_3 =>
 xNn a0 fun x26 =>
 oM (hs_3.cell (x26.add 4)) fun x28 =>
 oI .i64 (hs_3.cell ((⟨b4, 0, none⟩ : Addr).add 0)) fun x29_0 =>
 oI .i64 (hs_3.cell ((⟨b4, 0, none⟩ : Addr).add 1)) fun x29_1 =>
 xPut Try.prog 122 h_3 x28 (.agg #[(.int .i64 x29_0), (.int .i64 x29_1)]) (.agg #[(.int .i64 x16), (.int .i64 a2)]) fun h_4 =>
 Q (.bool true) h_4)
theorem P_model_Model_leave_eq (a0 : Option Addr) (a1_0 : Int) (a1_1 : Int) (a2 : Int) (h : PH) (Q : Value → PH → Prop) : dFn Try.prog Try.f80 A_model_Model_leave #[(.pointer a0), (.agg #[(.int .i64 a1_0), (.int .i64 a1_1)]), (.int .i64 a2)] h Q = P_model_Model_leave a0 a1_0 a1_1 a2 h Q := by kernel_rfl
theorem P_model_Model_leave_of {a0 : Option Addr} {a1_0 : Int} {a1_1 : Int} {a2 : Int} {h : PH} {Q : Value → PH → Prop} (x : P_model_Model_leave a0 a1_0 a1_1 a2 h Q) : Meets Try.prog 80 #[(.pointer a0), (.agg #[(.int .i64 a1_0), (.int .i64 a1_1)]), (.int .i64 a2)] h Q :=
  spec_of Try.func80 mix (by kernel_rfl) ((P_model_Model_leave_eq a0 a1_0 a1_1 a2 h Q).symm ▸ x)
/-- (*futtock/model.Model).end -/
def A_model_Model_end : Ann := .seq (.leaf) (.seq (.draw [(0, .flt), (1, .flt), (2, .flt), (3, .flt), (4, .flt), (5, .flt), (6, .flt), (7, .flt)]) (.seq (.leaf) (.seq (.draw [(0, .flt), (1, .flt), (2, .flt), (3, .flt), (4, .flt), (5, .flt), (6, .flt), (7, .flt), (8, .flt), (9, .eff), (10, .eff), (11, .flt)]) (.seq (.seq (.leaf) (.cond [] (.seq (.leaf) (.leaf)) (.leaf))) (.seq (.draw [(0, .flt), (1, .flt), (2, .flt), (3, .flt), (4, .flt), (5, .eff)]) (.seq (.draw [(0, .flt), (1, .flt), (2, .flt), (3, .flt), (4, .flt), (5, .flt), (6, .flt), (7, .flt), (8, .eff), (9, .brk), (10, .brk), (11, .brk)]) (.seq (.seq (.leaf) (.cond [] (.draw [(0, .flt), (1, .flt), (2, .flt), (3, .flt), (4, .flt), (5, .flt), (6, .flt), (7, .brk)]) (.leaf))) (.seq (.leaf) (.leaf)))))))))
def P_model_Model_end (a0 : Option Addr) (a1_0 : Int) (a1_1 : Int) (a1_2 : Int) (a1_3 : Int) (a1_4 : Int) (h : PH) (Q : Value → PH → Prop) : Prop :=
 xNew h (.cells #[(.int .i64 a1_0), (.int .i64 a1_1), (.int .i64 a1_2), (.int .i64 a1_3), (.int .i64 a1_4)] 33 (0, 0)) fun b3 h_1 =>
 xDraw h_1 fun hs_1 =>
 xNn a0 fun x10 =>
 oS (hs_1.cell (x10.add 1)) fun x12a x12l x12c =>
 oI .i64 (hs_1.cell ((⟨b3, 0, none⟩ : Addr).add 2)) fun x14 =>
 xIdx x12a x12l x14 3 fun x15 =>
 oI .i64 (h_1.cell ((⟨b3, 0, none⟩ : Addr).add 2)) fun x17 =>
 oI .i64 (h_1.cell ((⟨b3, 0, none⟩ : Addr).add 1)) fun x19 =>
 xNew h_1 (.cells #[(.int .i64 0), (.int .i64 0)] 122 (0, 0)) fun b6 h_2 =>
 xSt 2 h_2 (⟨b6, 0, none⟩ : Addr) [(.int .i64 x17), (.int .i64 x19)] fun h_3 =>
 xDraw h_3 fun hs_2 =>
 xNn a0 fun x23 =>
 oM (hs_2.cell (x23.add 4)) fun x25 =>
 oI .i64 (hs_2.cell ((⟨b6, 0, none⟩ : Addr).add 0)) fun x26_0 =>
 oI .i64 (hs_2.cell ((⟨b6, 0, none⟩ : Addr).add 1)) fun x26_1 =>
 xLook Try.prog 122 hs_2 x25 (.agg #[(.int .i64 x26_0), (.int .i64 x26_1)]) fun x27o =>
 oAgg (Option.getD x27o (.agg #[(.int .i64 0), (.int .i64 0)])) 2 fun x27cs =>
 oI .i64 x27cs[0]? fun x27_0 =>
 oI .i64 x27cs[1]? fun x27_1 =>
 oAgg (.agg #[(.int .i64 x27_0), (.int .i64 x27_1)]) 2 fun x28cs =>
 oI .i64 x28cs[0]? fun x28_0 =>
 oI .i64 x28cs[1]? fun x28_1 =>
 oB (some (.bool (x27o).isSome)) fun x29 =>
 xNew h_3 (.cells #[(.int .i64 0), (.int .i64 0)] 125 (0, 0)) fun b7 h_4 =>
 PH.le hs_2 h_4 ∧
 xSt 2 h_4 (⟨b7, 0, none⟩ : Addr) [(.int .i64 x28_0), (.int .i64 x28_1)] fun h_5 =>
 PH.le hs_2 h_5 ∧
 xSc (!x29) false (fun J_1 =>
 xNn (some x15) fun x34 =>
 oI .i64 (h_5.cell (x34.add 0)) fun x36 =>
 J_1 (x36 != (-1)) h_5)
 (fun r38 h_6 =>
 xSc r38 false (fun J_2 =>
 oI .i64 (h_6.cell ((⟨b7, 0, none⟩ : Addr).add 1)) fun x41 =>
 oI .i64 (h_6.cell ((⟨b3, 0, none⟩ : Addr).add 4)) fun x43 =>
 J_2 (x41 != x43) h_6)
 (fun r45 h_7 =>
 xIte r45 (fun J_3 =>
 Q (.bool false) h_7)
 (fun J_3 =>
 J_3 h_7)
 (fun  (h_8 : PH) =>
 xDraw h_8 fun hs_3 =>
 xNn a0 fun x47 =>
 oM (hs_3.cell (x47.add 4)) fun x49 =>
 oI .i64 (hs_3.cell ((⟨b6, 0, none⟩ : Addr).add 0)) fun x50_0 =>
 oI .i64 (hs_3.cell ((⟨b6, 0, none⟩ : Addr).add 1)) fun x50_1 =>
 xDel Try.prog 122 h_8 x49 (.agg #[(.int .i64 x50_0), (.int .i64 x50_1)]) fun h_9 =>
 PH.le hs_3 h_9 ∧
 xDraw h_9 fun hs_4 =>
 oI .i64 (hs_4.cell ((⟨b3, 0, none⟩ : Addr).add 1)) fun x54 =>
 oI .i64 (hs_4.cell ((⟨b7, 0, none⟩ : Addr).add 0)) fun x56 =>
 xNn (some x15) fun x57 =>
 xSt 1 h_9 (x57.add 0) [(.int .i64 x54)] fun h_10 =>
 PH.le hs_4 h_10 ∧
 xNn (some x15) fun x59 =>
 xSt 1 h_10 (x59.add 1) [(.int .i64 x56)] fun h_11 =>
 oI .i64 (h_11.cell ((⟨b3, 0, none⟩ : Addr).add 4)) fun x62 =>
 xIte (x62 == 12) (fun J_4 =>
 xDraw h_11 fun hs_5 =>
 xNn a0 fun x65 =>
 oS (hs_5.cell (x65.add 2)) fun x67a x67l x67c =>
 oI .i64 (hs_5.cell ((⟨b3, 0, none⟩ : Addr).add 1)) fun x69 =>
 xIdx x67a x67l x69 1 fun x70 =>
 xSt 1 h_11 x70 [(.bool false)] fun h_12 =>
 J_4 h_12)
 (fun J_4 =>
 J_4 h_11)
 (fun  (h_13 : PH) =>
 Q (.bool true) h_13))) h_6) h_5
theorem P_model_Model_end_eq (a0 : Option Addr) (a1_0 : Int) (a1_1 : Int) (a1_2 : Int) (a1_3 : Int) (a1_4 : Int) (h : PH) (Q : Value → PH → Prop) : dFn Try.prog Try.f81 A_model_Model_end #[(.pointer a0), (.agg #[(.int .i64 a1_0), (.int .i64 a1_1), (.int .i64 a1_2), (.int .i64 a1_3), (.int .i64 a1_4)])] h Q = P_model_Model_end a0 a1_0 a1_1 a1_2 a1_3 a1_4 h Q := by kernel_rfl
theorem P_model_Model_end_of {a0 : Option Addr} {a1_0 : Int} {a1_1 : Int} {a1_2 : Int} {a1_3 : Int} {a1_4 : Int} {h : PH} {Q : Value → PH → Prop} (x : P_model_Model_end a0 a1_0 a1_1 a1_2 a1_3 a1_4 h Q) : Meets Try.prog 81 #[(.pointer a0), (.agg #[(.int .i64 a1_0), (.int .i64 a1_1), (.int .i64 a1_2), (.int .i64 a1_3), (.int .i64 a1_4)])] h Q :=
  spec_of Try.func81 mix (by kernel_rfl) ((P_model_Model_end_eq a0 a1_0 a1_1 a1_2 a1_3 a1_4 h Q).symm ▸ x)
/-- (*futtock/model.Model).tell -/
def A_model_Model_tell : Ann := .seq (.leaf) (.seq (.leaf) (.seq (.leaf) (.seq (.block [] (.seq (.leaf) (.cond [] (.seq (.leaf) (.leaf)) (.seq (.leaf) (.cond [] (.seq (.leaf) (.leaf)) (.seq (.leaf) (.cond [] (.seq (.leaf) (.leaf)) (.seq (.leaf) (.cond [] (.seq (.leaf) (.leaf)) (.leaf)))))))))) (.seq (.leaf) (.leaf)))))
def P_model_Model_tell (a0 : Option Addr) (a1_0 : Int) (a1_1 : Int) (a1_2 : Int) (a1_3 : Int) (a1_4 : Int) (h : PH) (Q : Value → PH → Prop) : Prop :=
 xNew h (.cells #[(.int .i64 a1_0), (.int .i64 a1_1), (.int .i64 a1_2), (.int .i64 a1_3), (.int .i64 a1_4)] 33 (0, 0)) fun b3 h_1 =>
 oI .i64 (h_1.cell ((⟨b3, 0, none⟩ : Addr).add 0)) fun x8_0 =>
 oI .i64 (h_1.cell ((⟨b3, 0, none⟩ : Addr).add 1)) fun x8_1 =>
 oI .i64 (h_1.cell ((⟨b3, 0, none⟩ : Addr).add 2)) fun x8_2 =>
 oI .i64 (h_1.cell ((⟨b3, 0, none⟩ : Addr).add 3)) fun x8_3 =>
 oI .i64 (h_1.cell ((⟨b3, 0, none⟩ : Addr).add 4)) fun x8_4 =>
 Meets Try.prog 104 #[(.pointer a0), (.agg #[(.int .i64 x8_0), (.int .i64 x8_1), (.int .i64 x8_2), (.int .i64 x8_3), (.int .i64 x8_4)])] h_1 fun v9 h_2 =>
 oB (some v9) fun x9 =>
 oI .i64 (h_2.cell ((⟨b3, 0, none⟩ : Addr).add 2)) fun x12 =>
 Meets Try.prog 22 #[(.pointer a0), (.int .i64 x12)] h_2 fun v13 h_3 =>
 oS (some v13) fun x13a x13l x13c =>
 xBlk (fun J_1 =>
 oI .i64 (h_3.cell ((⟨b3, 0, none⟩ : Addr).add 0)) fun x18 =>
 xIte (x18 == 7) (fun J_2 =>
 oI .i64 (h_3.cell ((⟨b3, 0, none⟩ : Addr).add 4)) fun x21 =>
 xSc (x21 == 0) true (fun J_3 =>
 J_3 x9 h_3)
 (fun r25 h_4 =>
 xSc r25 true (fun J_4 =>
 oI .i64 (h_4.cell ((⟨b3, 0, none⟩ : Addr).add 2)) fun x29 =>
 oI .i64 (h_4.cell ((⟨b3, 0, none⟩ : Addr).add 3)) fun x31 =>
 Meets Try.prog 80 #[(.pointer a0), (.agg #[(.int .i64 x29), (.int .i64 x31)]), (.int .i64 0)] h_4 fun v33 h_5 =>
 oB (some v33) fun x33 =>
 J_4 x33 h_5)
 (fun r34 h_6 =>
 Q (.bool r34) h_6) h_4) h_3)
 (fun J_2 =>
 oI .i64 (h_3.cell ((⟨b3, 0, none⟩ : Addr).add 4)) fun x37 =>
 xIte (x37 == 9) (fun J_5 =>
 xSc (!x9) true (fun J_6 =>
 oI .i64 (h_3.cell ((⟨b3, 0, none⟩ : Addr).add 0)) fun x43 =>
 xSc (x43 == 9) true (fun J_7 =>
 oI .i64 (h_3.cell ((⟨b3, 0, none⟩ : Addr).add 3)) fun x47 =>
 J_7 (x47 == 0) h_3)
 (fun r49 h_7 =>
 xSc r49 false (fun J_8 =>
 oI .i64 (h_7.cell ((⟨b3, 0, none⟩ : Addr).add 0)) fun x52 =>
 xSc (x52 == 8) true (fun J_9 =>
 oI .i64 (h_7.cell ((⟨b3, 0, none⟩ : Addr).add 3)) fun x56 =>
 J_9 (x56 == (-1)) h_7)
 (fun r58 h_8 =>
 J_8 r58 h_8) h_7)
 (fun r59 h_9 =>
 J_6 r59 h_9) h_7) h_3)
 (fun r60 h_10 =>
 Q (.bool r60) h_10) h_3)
 (fun J_5 =>
 oI .i64 (h_3.cell ((⟨b3, 0, none⟩ : Addr).add 4)) fun x63 =>
 xSc (x63 != 0) false (fun J_10 =>
 J_10 (!x9) h_3)
 (fun r68 h_11 =>
 xIte r68 (fun J_11 =>
 Q (.bool false) h_11)
 (fun J_11 =>
 oI .i64 (h_11.cell ((⟨b3, 0, none⟩ : Addr).add 0)) fun x71 =>
 xIte (x71 == 9) (fun J_12 =>
 oI .i64 (h_11.cell ((⟨b3, 0, none⟩ : Addr).add 3)) fun x74 =>
 xSc (x74 == 0) true (fun J_13 =>
 J_13 (((x13l : Nat) : Int) == 0) h_11)
 (fun r78 h_12 =>
 Q (.bool r78) h_12) h_11)
 (fun J_12 =>
 J_12 h_11)
 (fun  (h_13 : PH) =>
 J_11 h_13))
 (fun  (h_14 : PH) =>
 J_5 h_14)) h_3)
 (fun  (h_15 : PH) =>
 J_2 h_15))
 (fun  (h_16 : PH) =>
 J_1 h_16))
 (fun  (h_17 : PH) =>
 oI .i64 (h_17.cell ((⟨b3, 0, none⟩ : Addr).add 3)) fun x81 =>
 Meets Try.prog 57 #[(.pointer a0), (.int .i64 x81)] h_17 fun v82 h_18 =>
 oB (some v82) fun x82 =>
 xSc x82 false (fun J_14 =>
 oI .i64 (h_18.cell ((⟨b3, 0, none⟩ : Addr).add 3)) fun x85 =>
 xSc (x85 == (-1)) true (fun J_15 =>
 J_15 (((x13l : Nat) : Int) == 0) h_18)
 (fun r89 h_19 =>
 J_14 r89 h_19) h_18)
 (fun r90 h_20 =>
 Q (.bool r90) h_20) h_18)
theorem P_model_Model_tell_eq (a0 : Option Addr) (a1_0 : Int) (a1_1 : Int) (a1_2 : Int) (a1_3 : Int) (a1_4 : Int) (h : PH) (Q : Value → PH → Prop) : dFn Try.prog Try.f82 A_model_Model_tell #[(.pointer a0), (.agg #[(.int .i64 a1_0), (.int .i64 a1_1), (.int .i64 a1_2), (.int .i64 a1_3), (.int .i64 a1_4)])] h Q = P_model_Model_tell a0 a1_0 a1_1 a1_2 a1_3 a1_4 h Q := by kernel_rfl
theorem P_model_Model_tell_of {a0 : Option Addr} {a1_0 : Int} {a1_1 : Int} {a1_2 : Int} {a1_3 : Int} {a1_4 : Int} {h : PH} {Q : Value → PH → Prop} (x : P_model_Model_tell a0 a1_0 a1_1 a1_2 a1_3 a1_4 h Q) : Meets Try.prog 82 #[(.pointer a0), (.agg #[(.int .i64 a1_0), (.int .i64 a1_1), (.int .i64 a1_2), (.int .i64 a1_3), (.int .i64 a1_4)])] h Q :=
  spec_of Try.func82 mix (by kernel_rfl) ((P_model_Model_tell_eq a0 a1_0 a1_1 a1_2 a1_3 a1_4 h Q).symm ▸ x)
/-- (*futtock/model.Model).hash -/
def A_model_Model_hash : Ann := .seq (.leaf) (.seq (.draw [(0, .flt), (1, .flt), (2, .flt), (3, .flt), (4, .flt), (5, .flt), (6, .flt), (7, .flt)]) (.seq (.block [] (.seq (.leaf) (.cond [] (.seq (.leaf) (.leaf)) (.seq (.draw [(0, .flt), (1, .flt), (2, .flt), (3, .flt), (4, .flt), (5, .flt), (6, .eff), (7, .flt), (8, .flt), (9, .flt), (10, .flt), (11, .flt), (12, .flt), (13, .flt), (14, .flt), (15, .flt), (16, .flt), (17, .flt), (18, .flt), (19, .flt), (20, .flt), (21, .flt), (22, .flt), (23, .flt), (24, .flt), (25, .flt)]) (.cond [] (.seq (.leaf) (.leaf)) (.leaf)))))) (.seq (.leaf) (.seq (.leaf) (.leaf)))))
def P_model_Model_hash (a0 : Option Addr) (a1_0 : Int) (a1_1 : Int) (a1_2 : Int) (a1_3 : Int) (a1_4 : Int) (h : PH) (Q : Value → PH → Prop) : Prop :=
 xNew h (.cells #[(.int .i64 a1_0), (.int .i64 a1_1), (.int .i64 a1_2), (.int .i64 a1_3), (.int .i64 a1_4)] 33 (0, 0)) fun b3 h_1 =>
 xDraw h_1 fun hs_1 =>
 xNn a0 fun x7 =>
 oS (hs_1.cell (x7.add 1)) fun x9a x9l x9c =>
 oI .i64 (hs_1.cell ((⟨b3, 0, none⟩ : Addr).add 2)) fun x11 =>
 xIdx x9a x9l x11 3 fun x12 =>
 xBlk (fun J_1 =>
 oI .i64 (h_1.cell ((⟨b3, 0, none⟩ : Addr).add 4)) fun x15 =>
 xIte (x15 == 11) (fun J_2 =>
 oI .i64 (h_1.cell ((⟨b3, 0, none⟩ : Addr).add 3)) fun x18 =>
 xSc (x18 == 0) true (fun J_3 =>
 xNn (some x12) fun x22 =>
 oI .i64 (h_1.cell (x22.add 0)) fun x24 =>
 J_3 (x24 != (-1)) h_1)
 (fun r26 h_2 =>
 Q (.bool r26) h_2) h_1)
 (fun J_2 =>
 xDraw h_1 fun hs_2 =>
 oI .i64 (hs_2.cell ((⟨b3, 0, none⟩ : Addr).add 4)) fun x29 =>
 xSc (x29 != 0) false (fun J_4 =>
 oI .i64 (hs_2.cell ((⟨b3, 0, none⟩ : Addr).add 3)) fun x33 =>
 Meets Try.prog 45 #[(.int .i64 x33), (.int .i64 1), (.int .i64 2147483647)] h_1 fun v34 h_3 =>
 oB (some v34) fun x34 =>
 PH.le hs_2 h_3 ∧
 J_4 (!x34) h_3)
 (fun r36 h_4 =>
 xSc r36 false (fun J_5 =>
 xNn (some x12) fun x39 =>
 oI .i64 (hs_2.cell (x39.add 2)) fun x41 =>
 xSc (x41 != 0) true (fun J_6 =>
 xNn (some x12) fun x45 =>
 oI .i64 (hs_2.cell (x45.add 2)) fun x47 =>
 oI .i64 (hs_2.cell ((⟨b3, 0, none⟩ : Addr).add 3)) fun x49 =>
 J_6 (x47 != x49) h_4)
 (fun r51 h_5 =>
 J_5 r51 h_5) h_4)
 (fun r52 h_6 =>
 xIte r52 (fun J_7 =>
 Q (.bool false) h_6)
 (fun J_7 =>
 J_7 h_6)
 (fun  (h_7 : PH) =>
 J_2 h_7)) h_4) h_1)
 (fun  (h_8 : PH) =>
 J_1 h_8))
 (fun  (h_9 : PH) =>
 oI .i64 (h_9.cell ((⟨b3, 0, none⟩ : Addr).add 3)) fun x55 =>
 xNn (some x12) fun x56 =>
 xSt 1 h_9 (x56.add 2) [(.int .i64 x55)] fun h_10 =>
 Q (.bool true) h_10)
theorem P_model_Model_hash_eq (a0 : Option Addr) (a1_0 : Int) (a1_1 : Int) (a1_2 : Int) (a1_3 : Int) (a1_4 : Int) (h : PH) (Q : Value → PH → Prop) : dFn Try.prog Try.f83 A_model_Model_hash #[(.pointer a0), (.agg #[(.int .i64 a1_0), (.int .i64 a1_1), (.int .i64 a1_2), (.int .i64 a1_3), (.int .i64 a1_4)])] h Q = P_model_Model_hash a0 a1_0 a1_1 a1_2 a1_3 a1_4 h Q := by kernel_rfl
theorem P_model_Model_hash_of {a0 : Option Addr} {a1_0 : Int} {a1_1 : Int} {a1_2 : Int} {a1_3 : Int} {a1_4 : Int} {h : PH} {Q : Value → PH → Prop} (x : P_model_Model_hash a0 a1_0 a1_1 a1_2 a1_3 a1_4 h Q) : Meets Try.prog 83 #[(.pointer a0), (.agg #[(.int .i64 a1_0), (.int .i64 a1_1), (.int .i64 a1_2), (.int .i64 a1_3), (.int .i64 a1_4)])] h Q :=
  spec_of Try.func83 mix (by kernel_rfl) ((P_model_Model_hash_eq a0 a1_0 a1_1 a1_2 a1_3 a1_4 h Q).symm ▸ x)
/-- (*futtock/model.Model).holds -/
def A_model_Model_holds : Ann := .seq (.leaf) (.seq (.leaf) (.leaf))
def P_model_Model_holds (a0 : Option Addr) (a1_0 : Int) (a1_1 : Int) (a1_2 : Int) (a1_3 : Int) (a1_4 : Int) (h : PH) (Q : Value → PH → Prop) : Prop :=
 xNew h (.cells #[(.int .i64 a1_0), (.int .i64 a1_1), (.int .i64 a1_2), (.int .i64 a1_3), (.int .i64 a1_4)] 33 (0, 0)) fun b3 h_1 =>
 oI .i64 (h_1.cell ((⟨b3, 0, none⟩ : Addr).add 4)) fun x6 =>
 xSc (x6 == 0) true (fun J_1 =>
 oI .i64 (h_1.cell ((⟨b3, 0, none⟩ : Addr).add 3)) fun x10 =>
 xSc (x10 == 1) true (fun J_2 =>
 oI .i64 (h_1.cell ((⟨b3, 0, none⟩ : Addr).add 0)) fun x14_0 =>
 oI .i64 (h_1.cell ((⟨b3, 0, none⟩ : Addr).add 1)) fun x14_1 =>
 oI .i64 (h_1.cell ((⟨b3, 0, none⟩ : Addr).add 2)) fun x14_2 =>
 oI .i64 (h_1.cell ((⟨b3, 0, none⟩ : Addr).add 3)) fun x14_3 =>
 oI .i64 (h_1.cell ((⟨b3, 0, none⟩ : Addr).add 4)) fun x14_4 =>
 Meets Try.prog 104 #[(.pointer a0), (.agg #[(.int .i64 x14_0), (.int .i64 x14_1), (.int .i64 x14_2), (.int .i64 x14_3), (.int .i64 x14_4)])] h_1 fun v15 h_2 =>
 oB (some v15) fun x15 =>
 J_2 x15 h_2)
 (fun r16 h_3 =>
 xSc r16 false (fun J_3 =>
 oI .i64 (h_3.cell ((⟨b3, 0, none⟩ : Addr).add 3)) fun x19 =>
 xSc (x19 == 0) true (fun J_4 =>
 oI .i64 (h_3.cell ((⟨b3, 0, none⟩ : Addr).add 0)) fun x23_0 =>
 oI .i64 (h_3.cell ((⟨b3, 0, none⟩ : Addr).add 1)) fun x23_1 =>
 oI .i64 (h_3.cell ((⟨b3, 0, none⟩ : Addr).add 2)) fun x23_2 =>
 oI .i64 (h_3.cell ((⟨b3, 0, none⟩ : Addr).add 3)) fun x23_3 =>
 oI .i64 (h_3.cell ((⟨b3, 0, none⟩ : Addr).add 4)) fun x23_4 =>
 Meets Try.prog 104 #[(.pointer a0), (.agg #[(.int .i64 x23_0), (.int .i64 x23_1), (.int .i64 x23_2), (.int .i64 x23_3), (.int .i64 x23_4)])] h_3 fun v24 h_4 =>
 oB (some v24) fun x24 =>
 J_4 (!x24) h_4)
 (fun r26 h_5 =>
 J_3 r26 h_5) h_3)
 (fun r27 h_6 =>
 J_1 r27 h_6) h_3) h_1)
 (fun r28 h_7 =>
 Q (.bool r28) h_7) h_1
theorem P_model_Model_holds_eq (a0 : Option Addr) (a1_0 : Int) (a1_1 : Int) (a1_2 : Int) (a1_3 : Int) (a1_4 : Int) (h : PH) (Q : Value → PH → Prop) : dFn Try.prog Try.f84 A_model_Model_holds #[(.pointer a0), (.agg #[(.int .i64 a1_0), (.int .i64 a1_1), (.int .i64 a1_2), (.int .i64 a1_3), (.int .i64 a1_4)])] h Q = P_model_Model_holds a0 a1_0 a1_1 a1_2 a1_3 a1_4 h Q := by kernel_rfl
theorem P_model_Model_holds_of {a0 : Option Addr} {a1_0 : Int} {a1_1 : Int} {a1_2 : Int} {a1_3 : Int} {a1_4 : Int} {h : PH} {Q : Value → PH → Prop} (x : P_model_Model_holds a0 a1_0 a1_1 a1_2 a1_3 a1_4 h Q) : Meets Try.prog 84 #[(.pointer a0), (.agg #[(.int .i64 a1_0), (.int .i64 a1_1), (.int .i64 a1_2), (.int .i64 a1_3), (.int .i64 a1_4)])] h Q :=
  spec_of Try.func84 mix (by kernel_rfl) ((P_model_Model_holds_eq a0 a1_0 a1_1 a1_2 a1_3 a1_4 h Q).symm ▸ x)
/-- (*futtock/model.Model).apply -/
def A_model_Model_apply : Ann := .seq (.leaf) (.seq (.leaf) (.seq (.seq (.leaf) (.block [] (.seq (.seq (.leaf) (.cond [(12, .bool)] (.leaf) (.leaf))) (.cond [] (.seq (.leaf) (.leaf)) (.seq (.leaf) (.cond [] (.seq (.leaf) (.leaf)) (.seq (.leaf) (.cond [] (.seq (.leaf) (.leaf)) (.seq (.leaf) (.cond [] (.seq (.draw [(0, .flt), (1, .flt), (2, .flt), (3, .flt), (4, .flt), (5, .flt), (6, .flt), (7, .flt), (8, .flt), (9, .flt), (10, .flt), (11, .flt), (12, .flt), (13, .flt), (14, .flt), (15, .flt), (16, .flt), (17, .flt), (18, .flt)]) (.seq (.leaf) (.leaf))) (.seq (.leaf) (.cond [] (.seq (.leaf) (.leaf)) (.seq (.seq (.leaf) (.cond [(80, .bool)] (.leaf) (.seq (.leaf) (.cond [(80, .bool)] (.leaf) (.leaf))))) (.cond [] (.seq (.leaf) (.leaf)) (.seq (.leaf) (.cond [] (.seq (.leaf) (.leaf)) (.seq (.leaf) (.cond [] (.seq (.leaf) (.leaf)) (.seq (.leaf) (.cond [] (.seq (.seq (.leaf) (.cond [] (.seq (.leaf) (.leaf)) (.leaf))) (.seq (.draw [(0, .flt), (1, .flt), (2, .flt), (3, .flt), (4, .flt), (5, .flt), (6, .flt), (7, .brk)]) (.seq (.leaf) (.leaf)))) (.leaf))))))))))))))))))))) (.seq (.leaf) (.leaf))))
def P_model_Model_apply (a0 : Option Addr) (a1_0 : Int) (a1_1 : Int) (a1_2 : Int) (a1_3 : Int) (a1_4 : Int) (h : PH) (Q : Value → PH → Prop) : Prop :=
 xNew h (.cells #[(.int .i64 a1_0), (.int .i64 a1_1), (.int .i64 a1_2), (.int .i64 a1_3), (.int .i64 a1_4)] 33 (0, 0)) fun b3 h_1 =>
 oI .i64 (h_1.cell ((⟨b3, 0, none⟩ : Addr).add 3)) fun x8 =>
 oI .i64 (h_1.cell ((⟨b3, 0, none⟩ : Addr).add 0)) fun x11 =>
 xBlk (fun J_1 =>
 xIte (x11 == 1) (fun J_2 =>
 J_2 (x11 == 1) h_1)
 (fun J_2 =>
 J_2 (x11 == 2) h_1)
 (fun (x12 : Bool) (h_2 : PH) =>
 xIte x12 (fun J_3 =>
 xSc (x8 == 0) true (fun J_4 =>
 oI .i64 (h_2.cell ((⟨b3, 0, none⟩ : Addr).add 0)) fun x18_0 =>
 oI .i64 (h_2.cell ((⟨b3, 0, none⟩ : Addr).add 1)) fun x18_1 =>
 oI .i64 (h_2.cell ((⟨b3, 0, none⟩ : Addr).add 2)) fun x18_2 =>
 oI .i64 (h_2.cell ((⟨b3, 0, none⟩ : Addr).add 3)) fun x18_3 =>
 oI .i64 (h_2.cell ((⟨b3, 0, none⟩ : Addr).add 4)) fun x18_4 =>
 Meets Try.prog 77 #[(.pointer a0), (.agg #[(.int .i64 x18_0), (.int .i64 x18_1), (.int .i64 x18_2), (.int .i64 x18_3), (.int .i64 x18_4)])] h_2 fun v19 h_3 =>
 oB (some v19) fun x19 =>
 J_4 x19 h_3)
 (fun r20 h_4 =>
 Q (.bool r20) h_4) h_2)
 (fun J_3 =>
 xIte (x11 == 3) (fun J_5 =>
 xSc (x8 == 0) true (fun J_6 =>
 oI .i64 (h_2.cell ((⟨b3, 0, none⟩ : Addr).add 0)) fun x26_0 =>
 oI .i64 (h_2.cell ((⟨b3, 0, none⟩ : Addr).add 1)) fun x26_1 =>
 oI .i64 (h_2.cell ((⟨b3, 0, none⟩ : Addr).add 2)) fun x26_2 =>
 oI .i64 (h_2.cell ((⟨b3, 0, none⟩ : Addr).add 3)) fun x26_3 =>
 oI .i64 (h_2.cell ((⟨b3, 0, none⟩ : Addr).add 4)) fun x26_4 =>
 Meets Try.prog 78 #[(.pointer a0), (.agg #[(.int .i64 x26_0), (.int .i64 x26_1), (.int .i64 x26_2), (.int .i64 x26_3), (.int .i64 x26_4)])] h_2 fun v27 h_5 =>
 oB (some v27) fun x27 =>
 J_6 x27 h_5)
 (fun r28 h_6 =>
 Q (.bool r28) h_6) h_2)
 (fun J_5 =>
 xIte (x11 == 4) (fun J_7 =>
 xSc (x8 == 0) true (fun J_8 =>
 oI .i64 (h_2.cell ((⟨b3, 0, none⟩ : Addr).add 0)) fun x34_0 =>
 oI .i64 (h_2.cell ((⟨b3, 0, none⟩ : Addr).add 1)) fun x34_1 =>
 oI .i64 (h_2.cell ((⟨b3, 0, none⟩ : Addr).add 2)) fun x34_2 =>
 oI .i64 (h_2.cell ((⟨b3, 0, none⟩ : Addr).add 3)) fun x34_3 =>
 oI .i64 (h_2.cell ((⟨b3, 0, none⟩ : Addr).add 4)) fun x34_4 =>
 Meets Try.prog 79 #[(.pointer a0), (.agg #[(.int .i64 x34_0), (.int .i64 x34_1), (.int .i64 x34_2), (.int .i64 x34_3), (.int .i64 x34_4)])] h_2 fun v35 h_7 =>
 oB (some v35) fun x35 =>
 J_8 x35 h_7)
 (fun r36 h_8 =>
 Q (.bool r36) h_8) h_2)
 (fun J_7 =>
 xIte (x11 == 5) (fun J_9 =>
 xDraw h_2 fun hs_1 =>
 oI .i64 (hs_1.cell ((⟨b3, 0, none⟩ : Addr).add 4)) fun x40 =>
 xSc (x40 == 13) false (fun J_10 =>
 oI .i64 (hs_1.cell ((⟨b3, 0, none⟩ : Addr).add 4)) fun x44 =>
 xSc (x44 == 12) true (fun J_11 =>
 xNn a0 fun x48 =>
 oS (hs_1.cell (x48.add 2)) fun x50a x50l x50c =>
 oI .i64 (hs_1.cell ((⟨b3, 0, none⟩ : Addr).add 1)) fun x52 =>
 xIdx x50a x50l x52 1 fun x53 =>
 oB (hs_1.cell x53) fun x54 =>
 J_11 x54 h_2)
 (fun r55 h_9 =>
 J_10 r55 h_9) h_2)
 (fun r56 h_10 =>
 xSc (x8 == 0) true (fun J_12 =>
 J_12 r56 h_10)
 (fun r60 h_11 =>
 xSc r60 true (fun J_13 =>
 oI .i64 (h_11.cell ((⟨b3, 0, none⟩ : Addr).add 2)) fun x64 =>
 oI .i64 (h_11.cell ((⟨b3, 0, none⟩ : Addr).add 1)) fun x66 =>
 oI .i64 (h_11.cell ((⟨b3, 0, none⟩ : Addr).add 4)) fun x69 =>
 Meets Try.prog 80 #[(.pointer a0), (.agg #[(.int .i64 x64), (.int .i64 x66)]), (.int .i64 x69)] h_11 fun v70 h_12 =>
 oB (some v70) fun x70 =>
 J_13 x70 h_12)
 (fun r71 h_13 =>
 Q (.bool r71) h_13) h_11) h_10) h_2)
 (fun J_9 =>
 xIte (x11 == 6) (fun J_14 =>
 xSc (x8 == 0) true (fun J_15 =>
 oI .i64 (h_2.cell ((⟨b3, 0, none⟩ : Addr).add 0)) fun x77_0 =>
 oI .i64 (h_2.cell ((⟨b3, 0, none⟩ : Addr).add 1)) fun x77_1 =>
 oI .i64 (h_2.cell ((⟨b3, 0, none⟩ : Addr).add 2)) fun x77_2 =>
 oI .i64 (h_2.cell ((⟨b3, 0, none⟩ : Addr).add 3)) fun x77_3 =>
 oI .i64 (h_2.cell ((⟨b3, 0, none⟩ : Addr).add 4)) fun x77_4 =>
 Meets Try.prog 81 #[(.pointer a0), (.agg #[(.int .i64 x77_0), (.int .i64 x77_1), (.int .i64 x77_2), (.int .i64 x77_3), (.int .i64 x77_4)])] h_2 fun v78 h_14 =>
 oB (some v78) fun x78 =>
 J_15 x78 h_14)
 (fun r79 h_15 =>
 Q (.bool r79) h_15) h_2)
 (fun J_14 =>
 xIte (x11 == 7) (fun J_16 =>
 J_16 (x11 == 7) h_2)
 (fun J_16 =>
 xIte (x11 == 8) (fun J_17 =>
 J_17 (x11 == 8) h_2)
 (fun J_17 =>
 J_17 (x11 == 9) h_2)
 (fun (x80 : Bool) (h_16 : PH) =>
 J_16 x80 h_16))
 (fun (x80_1 : Bool) (h_17 : PH) =>
 xIte x80_1 (fun J_18 =>
 oI .i64 (h_17.cell ((⟨b3, 0, none⟩ : Addr).add 0)) fun x85_0 =>
 oI .i64 (h_17.cell ((⟨b3, 0, none⟩ : Addr).add 1)) fun x85_1 =>
 oI .i64 (h_17.cell ((⟨b3, 0, none⟩ : Addr).add 2)) fun x85_2 =>
 oI .i64 (h_17.cell ((⟨b3, 0, none⟩ : Addr).add 3)) fun x85_3 =>
 oI .i64 (h_17.cell ((⟨b3, 0, none⟩ : Addr).add 4)) fun x85_4 =>
 Meets Try.prog 82 #[(.pointer a0), (.agg #[(.int .i64 x85_0), (.int .i64 x85_1), (.int .i64 x85_2), (.int .i64 x85_3), (.int .i64 x85_4)])] h_17 fun v86 h_18 =>
 oB (some v86) fun x86 =>
 Q (.bool x86) h_18)
 (fun J_18 =>
 xIte (x11 == 10) (fun J_19 =>
 oI .i64 (h_17.cell ((⟨b3, 0, none⟩ : Addr).add 0)) fun x90_0 =>
 oI .i64 (h_17.cell ((⟨b3, 0, none⟩ : Addr).add 1)) fun x90_1 =>
 oI .i64 (h_17.cell ((⟨b3, 0, none⟩ : Addr).add 2)) fun x90_2 =>
 oI .i64 (h_17.cell ((⟨b3, 0, none⟩ : Addr).add 3)) fun x90_3 =>
 oI .i64 (h_17.cell ((⟨b3, 0, none⟩ : Addr).add 4)) fun x90_4 =>
 Meets Try.prog 83 #[(.pointer a0), (.agg #[(.int .i64 x90_0), (.int .i64 x90_1), (.int .i64 x90_2), (.int .i64 x90_3), (.int .i64 x90_4)])] h_17 fun v91 h_19 =>
 oB (some v91) fun x91 =>
 Q (.bool x91) h_19)
 (fun J_19 =>
 xIte (x11 == 11) (fun J_20 =>
 oI .i64 (h_17.cell ((⟨b3, 0, none⟩ : Addr).add 0)) fun x95_0 =>
 oI .i64 (h_17.cell ((⟨b3, 0, none⟩ : Addr).add 1)) fun x95_1 =>
 oI .i64 (h_17.cell ((⟨b3, 0, none⟩ : Addr).add 2)) fun x95_2 =>
 oI .i64 (h_17.cell ((⟨b3, 0, none⟩ : Addr).add 3)) fun x95_3 =>
 oI .i64 (h_17.cell ((⟨b3, 0, none⟩ : Addr).add 4)) fun x95_4 =>
 Meets Try.prog 84 #[(.pointer a0), (.agg #[(.int .i64 x95_0), (.int .i64 x95_1), (.int .i64 x95_2), (.int .i64 x95_3), (.int .i64 x95_4)])] h_17 fun v96 h_20 =>
 oB (some v96) fun x96 =>
 Q (.bool x96) h_20)
 (fun J_20 =>
 xIte (x11 == 12) (fun J_21 =>
 oI .i64 (h_17.cell ((⟨b3, 0, none⟩ : Addr).add 4)) fun x100 =>
 xSc (x100 != 0) false (fun J_22 =>
 oI .i64 (h_17.cell ((⟨b3, 0, none⟩ : Addr).add 3)) fun x105 =>
 Meets Try.prog 57 #[(.pointer a0), (.int .i64 x105)] h_17 fun v106 h_21 =>
 oB (some v106) fun x106 =>
 J_22 (!x106) h_21)
 (fun r108 h_22 =>
 xIte r108 (fun J_23 =>
 Q (.bool false) h_22)
 (fun J_23 =>
 J_23 h_22)
 (fun  (h_23 : PH) =>
 xDraw h_23 fun hs_2 =>
 xNn a0 fun x110 =>
 oS (hs_2.cell (x110.add 2)) fun x112a x112l x112c =>
 oI .i64 (hs_2.cell ((⟨b3, 0, none⟩ : Addr).add 3)) fun x114 =>
 xIdx x112a x112l x114 1 fun x115 =>
 xSt 1 h_23 x115 [(.bool true)] fun h_24 =>
 Q (.bool true) h_24)) h_17)
 (fun J_21 =>
 J_21 h_17)
 (fun  (h_25 : PH) =>
 J_20 h_25))
 (fun  (h_26 : PH) =>
 J_19 h_26))
 (fun  (h_27 : PH) =>
 J_18 h_27))
 (fun  (h_28 : PH) =>
 J_14 h_28)))
 (fun  (h_29 : PH) =>
 J_9 h_29))
 (fun  (h_30 : PH) =>
 J_7 h_30))
 (fun  (h_31 : PH) =>
 J_5 h_31))
 (fun  (h_32 : PH) =>
 J_3 h_32))
 (fun  (h_33 : PH) =>
 J_1 h_33)))
 (fun  (h_34 : PH) =>
 Q (.bool false) h_34)
theorem P_model_Model_apply_eq (a0 : Option Addr) (a1_0 : Int) (a1_1 : Int) (a1_2 : Int) (a1_3 : Int) (a1_4 : Int) (h : PH) (Q : Value → PH → Prop) : dFn Try.prog Try.f52 A_model_Model_apply #[(.pointer a0), (.agg #[(.int .i64 a1_0), (.int .i64 a1_1), (.int .i64 a1_2), (.int .i64 a1_3), (.int .i64 a1_4)])] h Q = P_model_Model_apply a0 a1_0 a1_1 a1_2 a1_3 a1_4 h Q := by kernel_rfl
theorem P_model_Model_apply_of {a0 : Option Addr} {a1_0 : Int} {a1_1 : Int} {a1_2 : Int} {a1_3 : Int} {a1_4 : Int} {h : PH} {Q : Value → PH → Prop} (x : P_model_Model_apply a0 a1_0 a1_1 a1_2 a1_3 a1_4 h Q) : Meets Try.prog 52 #[(.pointer a0), (.agg #[(.int .i64 a1_0), (.int .i64 a1_1), (.int .i64 a1_2), (.int .i64 a1_3), (.int .i64 a1_4)])] h Q :=
  spec_of Try.func52 mix (by kernel_rfl) ((P_model_Model_apply_eq a0 a1_0 a1_1 a1_2 a1_3 a1_4 h Q).symm ▸ x)
/-- (*futtock/model.Model).Apply -/
def A_model_Model_Apply : Ann := .seq (.leaf) (.seq (.seq (.leaf) (.cond [] (.seq (.leaf) (.leaf)) (.leaf))) (.seq (.leaf) (.leaf)))
def P_model_Model_Apply (a0 : Option Addr) (a1_0 : Int) (a1_1 : Int) (a1_2 : Int) (a1_3 : Int) (a1_4 : Int) (h : PH) (Q : Value → PH → Prop) : Prop :=
 xNew h (.cells #[(.int .i64 a1_0), (.int .i64 a1_1), (.int .i64 a1_2), (.int .i64 a1_3), (.int .i64 a1_4)] 33 (0, 0)) fun b3 h_1 =>
 oI .i64 (h_1.cell ((⟨b3, 0, none⟩ : Addr).add 0)) fun x6_0 =>
 oI .i64 (h_1.cell ((⟨b3, 0, none⟩ : Addr).add 1)) fun x6_1 =>
 oI .i64 (h_1.cell ((⟨b3, 0, none⟩ : Addr).add 2)) fun x6_2 =>
 oI .i64 (h_1.cell ((⟨b3, 0, none⟩ : Addr).add 3)) fun x6_3 =>
 oI .i64 (h_1.cell ((⟨b3, 0, none⟩ : Addr).add 4)) fun x6_4 =>
 Meets Try.prog 51 #[(.pointer a0), (.agg #[(.int .i64 x6_0), (.int .i64 x6_1), (.int .i64 x6_2), (.int .i64 x6_3), (.int .i64 x6_4)])] h_1 fun v7 h_2 =>
 oB (some v7) fun x7 =>
 xSc (!x7) false (fun J_1 =>
 oI .i64 (h_2.cell ((⟨b3, 0, none⟩ : Addr).add 0)) fun x11_0 =>
 oI .i64 (h_2.cell ((⟨b3, 0, none⟩ : Addr).add 1)) fun x11_1 =>
 oI .i64 (h_2.cell ((⟨b3, 0, none⟩ : Addr).add 2)) fun x11_2 =>
 oI .i64 (h_2.cell ((⟨b3, 0, none⟩ : Addr).add 3)) fun x11_3 =>
 oI .i64 (h_2.cell ((⟨b3, 0, none⟩ : Addr).add 4)) fun x11_4 =>
 Meets Try.prog 52 #[(.pointer a0), (.agg #[(.int .i64 x11_0), (.int .i64 x11_1), (.int .i64 x11_2), (.int .i64 x11_3), (.int .i64 x11_4)])] h_2 fun v12 h_3 =>
 oB (some v12) fun x12 =>
 J_1 (!x12) h_3)
 (fun r14 h_4 =>
 xIte r14 (fun J_2 =>
 Q (.int .i64 15) h_4)
 (fun J_2 =>
 J_2 h_4)
 (fun  (h_5 : PH) =>
 Q (.int .i64 0) h_5)) h_2
theorem P_model_Model_Apply_eq (a0 : Option Addr) (a1_0 : Int) (a1_1 : Int) (a1_2 : Int) (a1_3 : Int) (a1_4 : Int) (h : PH) (Q : Value → PH → Prop) : dFn Try.prog Try.f14 A_model_Model_Apply #[(.pointer a0), (.agg #[(.int .i64 a1_0), (.int .i64 a1_1), (.int .i64 a1_2), (.int .i64 a1_3), (.int .i64 a1_4)])] h Q = P_model_Model_Apply a0 a1_0 a1_1 a1_2 a1_3 a1_4 h Q := by kernel_rfl
theorem P_model_Model_Apply_of {a0 : Option Addr} {a1_0 : Int} {a1_1 : Int} {a1_2 : Int} {a1_3 : Int} {a1_4 : Int} {h : PH} {Q : Value → PH → Prop} (x : P_model_Model_Apply a0 a1_0 a1_1 a1_2 a1_3 a1_4 h Q) : Meets Try.prog 14 #[(.pointer a0), (.agg #[(.int .i64 a1_0), (.int .i64 a1_1), (.int .i64 a1_2), (.int .i64 a1_3), (.int .i64 a1_4)])] h Q :=
  spec_of Try.func14 mix (by kernel_rfl) ((P_model_Model_Apply_eq a0 a1_0 a1_1 a1_2 a1_3 a1_4 h Q).symm ▸ x)
/-- (*futtock/model.Model).at -/
def A_model_Model_at : Ann := .seq (.leaf) (.seq (.seq (.leaf) (.cond [] (.seq (.leaf) (.leaf)) (.leaf))) (.seq (.leaf) (.leaf)))
def P_model_Model_at (a0 : Option Addr) (a1 : Int) (h : PH) (Q : Value → PH → Prop) : Prop :=
 xNew h (.cells #[(.int .i64 0), (.int .i64 0), (.int .i64 0)] 117 (0, 0)) fun b4 h_1 =>
 Meets Try.prog 46 #[(.pointer a0)] h_1 fun v6 h_2 =>
 oB (some v6) fun x6 =>
 xSc (!x6) false (fun J_1 =>
 xNn a0 fun x11 =>
 oS (h_2.cell (x11.add 1)) fun x13a x13l x13c =>
 Meets Try.prog 45 #[(.int .i64 a1), (.int .i64 0), (.int .i64 (IntKind.wrap .i64 (((x13l : Nat) : Int) - 1)))] h_2 fun v16 h_3 =>
 oB (some v16) fun x16 =>
 J_1 (!x16) h_3)
 (fun r18 h_4 =>
 xIte r18 (fun J_2 =>
 xSt 3 h_4 (⟨b4, 0, none⟩ : Addr) [(.int .i64 (-1)), (.int .i64 0), (.int .i64 0)] fun h_5 =>
 oI .i64 (h_5.cell ((⟨b4, 0, none⟩ : Addr).add 0)) fun y4_0 =>
 oI .i64 (h_5.cell ((⟨b4, 0, none⟩ : Addr).add 1)) fun y4_1 =>
 oI .i64 (h_5.cell ((⟨b4, 0, none⟩ : Addr).add 2)) fun y4_2 =>
 Q (.agg #[(.int .i64 y4_0), (.int .i64 y4_1), (.int .i64 y4_2)]) h_5)
 (fun J_2 =>
 J_2 h_4)
 (fun  (h_6 : PH) =>
 xNn a0 fun x21 =>
 oS (h_6.cell (x21.add 1)) fun x23a x23l x23c =>
 xIdx x23a x23l a1 3 fun x25 =>
 oI .i64 (h_6.cell (x25.add 0)) fun x26_0 =>
 oI .i64 (h_6.cell (x25.add 1)) fun x26_1 =>
 oI .i64 (h_6.cell (x25.add 2)) fun x26_2 =>
 xSt 3 h_6 (⟨b4, 0, none⟩ : Addr) [(.int .i64 x26_0), (.int .i64 x26_1), (.int .i64 x26_2)] fun h_7 =>
 oI .i64 (h_7.cell ((⟨b4, 0, none⟩ : Addr).add 0)) fun y4_0_1 =>
 oI .i64 (h_7.cell ((⟨b4, 0, none⟩ : Addr).add 1)) fun y4_1_1 =>
 oI .i64 (h_7.cell ((⟨b4, 0, none⟩ : Addr).add 2)) fun y4_2_1 =>
 Q (.agg #[(.int .i64 y4_0_1), (.int .i64 y4_1_1), (.int .i64 y4_2_1)]) h_7)) h_2
theorem P_model_Model_at_eq (a0 : Option Addr) (a1 : Int) (h : PH) (Q : Value → PH → Prop) : dFn Try.prog Try.f58 A_model_Model_at #[(.pointer a0), (.int .i64 a1)] h Q = P_model_Model_at a0 a1 h Q := by kernel_rfl
theorem P_model_Model_at_of {a0 : Option Addr} {a1 : Int} {h : PH} {Q : Value → PH → Prop} (x : P_model_Model_at a0 a1 h Q) : Meets Try.prog 58 #[(.pointer a0), (.int .i64 a1)] h Q :=
  spec_of Try.func58 mix (by kernel_rfl) ((P_model_Model_at_eq a0 a1 h Q).symm ▸ x)
/-- (*futtock/model.Model).Owner -/
def A_model_Model_Owner : Ann := .seq (.leaf) (.seq (.leaf) (.leaf))
def P_model_Model_Owner (a0 : Option Addr) (a1 : Int) (h : PH) (Q : Value → PH → Prop) : Prop :=
 Meets Try.prog 58 #[(.pointer a0), (.int .i64 a1)] h fun v7 h_1 =>
 oAgg v7 3 fun x7cs =>
 oI .i64 x7cs[0]? fun x7_0 =>
 oI .i64 x7cs[1]? fun x7_1 =>
 oI .i64 x7cs[2]? fun x7_2 =>
 Q (.int .i64 x7_0) h_1
theorem P_model_Model_Owner_eq (a0 : Option Addr) (a1 : Int) (h : PH) (Q : Value → PH → Prop) : dFn Try.prog Try.f18 A_model_Model_Owner #[(.pointer a0), (.int .i64 a1)] h Q = P_model_Model_Owner a0 a1 h Q := by kernel_rfl
theorem P_model_Model_Owner_of {a0 : Option Addr} {a1 : Int} {h : PH} {Q : Value → PH → Prop} (x : P_model_Model_Owner a0 a1 h Q) : Meets Try.prog 18 #[(.pointer a0), (.int .i64 a1)] h Q :=
  spec_of Try.func18 mix (by kernel_rfl) ((P_model_Model_Owner_eq a0 a1 h Q).symm ▸ x)
/-- (*futtock/model.Model).Count -/
def A_model_Model_Count : Ann := .seq (.leaf) (.seq (.leaf) (.leaf))
def P_model_Model_Count (a0 : Option Addr) (a1 : Int) (h : PH) (Q : Value → PH → Prop) : Prop :=
 Meets Try.prog 58 #[(.pointer a0), (.int .i64 a1)] h fun v7 h_1 =>
 oAgg v7 3 fun x7cs =>
 oI .i64 x7cs[0]? fun x7_0 =>
 oI .i64 x7cs[1]? fun x7_1 =>
 oI .i64 x7cs[2]? fun x7_2 =>
 Q (.int .i64 x7_1) h_1
theorem P_model_Model_Count_eq (a0 : Option Addr) (a1 : Int) (h : PH) (Q : Value → PH → Prop) : dFn Try.prog Try.f19 A_model_Model_Count #[(.pointer a0), (.int .i64 a1)] h Q = P_model_Model_Count a0 a1 h Q := by kernel_rfl
theorem P_model_Model_Count_of {a0 : Option Addr} {a1 : Int} {h : PH} {Q : Value → PH → Prop} (x : P_model_Model_Count a0 a1 h Q) : Meets Try.prog 19 #[(.pointer a0), (.int .i64 a1)] h Q :=
  spec_of Try.func19 mix (by kernel_rfl) ((P_model_Model_Count_eq a0 a1 h Q).symm ▸ x)
/-- (*futtock/model.Model).Hash -/
def A_model_Model_Hash : Ann := .seq (.leaf) (.seq (.leaf) (.leaf))
def P_model_Model_Hash (a0 : Option Addr) (a1 : Int) (h : PH) (Q : Value → PH → Prop) : Prop :=
 Meets Try.prog 58 #[(.pointer a0), (.int .i64 a1)] h fun v7 h_1 =>
 oAgg v7 3 fun x7cs =>
 oI .i64 x7cs[0]? fun x7_0 =>
 oI .i64 x7cs[1]? fun x7_1 =>
 oI .i64 x7cs[2]? fun x7_2 =>
 Q (.int .i64 x7_2) h_1
theorem P_model_Model_Hash_eq (a0 : Option Addr) (a1 : Int) (h : PH) (Q : Value → PH → Prop) : dFn Try.prog Try.f21 A_model_Model_Hash #[(.pointer a0), (.int .i64 a1)] h Q = P_model_Model_Hash a0 a1 h Q := by kernel_rfl
theorem P_model_Model_Hash_of {a0 : Option Addr} {a1 : Int} {h : PH} {Q : Value → PH → Prop} (x : P_model_Model_Hash a0 a1 h Q) : Meets Try.prog 21 #[(.pointer a0), (.int .i64 a1)] h Q :=
  spec_of Try.func21 mix (by kernel_rfl) ((P_model_Model_Hash_eq a0 a1 h Q).symm ▸ x)
/-- (*futtock/model.Model).Flag -/
def A_model_Model_Flag : Ann := .seq (.leaf) (.seq (.leaf) (.leaf))
def P_model_Model_Flag (a0 : Option Addr) (a1 : Int) (h : PH) (Q : Value → PH → Prop) : Prop :=
 Meets Try.prog 46 #[(.pointer a0)] h fun v6 h_1 =>
 oB (some v6) fun x6 =>
 xSc x6 true (fun J_1 =>
 Meets Try.prog 57 #[(.pointer a0), (.int .i64 a1)] h_1 fun v10 h_2 =>
 oB (some v10) fun x10 =>
 J_1 x10 h_2)
 (fun r11 h_3 =>
 xSc r11 true (fun J_2 =>
 xNn a0 fun x14 =>
 oS (h_3.cell (x14.add 2)) fun x16a x16l x16c =>
 xIdx x16a x16l a1 1 fun x18 =>
 oB (h_3.cell x18) fun x19 =>
 J_2 x19 h_3)
 (fun r20 h_4 =>
 Q (.bool r20) h_4) h_3) h_1
theorem P_model_Model_Flag_eq (a0 : Option Addr) (a1 : Int) (h : PH) (Q : Value → PH → Prop) : dFn Try.prog Try.f17 A_model_Model_Flag #[(.pointer a0), (.int .i64 a1)] h Q = P_model_Model_Flag a0 a1 h Q := by kernel_rfl
theorem P_model_Model_Flag_of {a0 : Option Addr} {a1 : Int} {h : PH} {Q : Value → PH → Prop} (x : P_model_Model_Flag a0 a1 h Q) : Meets Try.prog 17 #[(.pointer a0), (.int .i64 a1)] h Q :=
  spec_of Try.func17 mix (by kernel_rfl) ((P_model_Model_Flag_eq a0 a1 h Q).symm ▸ x)
/-- (*futtock/model.Model).Waiters -/
def A_model_Model_Waiters : Ann := .seq (.leaf) (.seq (.seq (.leaf) (.cond [] (.seq (.leaf) (.leaf)) (.leaf))) (.seq (.leaf) (.leaf)))
def P_model_Model_Waiters (a0 : Option Addr) (a1 : Int) (h : PH) (Q : Value → PH → Prop) : Prop :=
 Meets Try.prog 46 #[(.pointer a0)] h fun v6 h_1 =>
 oB (some v6) fun x6 =>
 xIte (!x6) (fun J_1 =>
 Q (.slice none 0 0) h_1)
 (fun J_1 =>
 J_1 h_1)
 (fun  (h_2 : PH) =>
 xNn a0 fun x9 =>
 oM (h_2.cell (x9.add 3)) fun x11 =>
 Meets Try.prog 59 #[(.map x11), (.int .i64 a1)] h_2 fun v13 h_3 =>
 oS (some v13) fun x13a x13l x13c =>
 Q (.slice x13a x13l x13c) h_3)
theorem P_model_Model_Waiters_eq (a0 : Option Addr) (a1 : Int) (h : PH) (Q : Value → PH → Prop) : dFn Try.prog Try.f22 A_model_Model_Waiters #[(.pointer a0), (.int .i64 a1)] h Q = P_model_Model_Waiters a0 a1 h Q := by kernel_rfl
theorem P_model_Model_Waiters_of {a0 : Option Addr} {a1 : Int} {h : PH} {Q : Value → PH → Prop} (x : P_model_Model_Waiters a0 a1 h Q) : Meets Try.prog 22 #[(.pointer a0), (.int .i64 a1)] h Q :=
  spec_of Try.func22 mix (by kernel_rfl) ((P_model_Model_Waiters_eq a0 a1 h Q).symm ▸ x)
/-- (*futtock/model.Model).Left -/
def A_model_Model_Left : Ann := .seq (.leaf) (.seq (.seq (.leaf) (.cond [] (.seq (.leaf) (.leaf)) (.leaf))) (.seq (.leaf) (.leaf)))
def P_model_Model_Left (a0 : Option Addr) (a1 : Int) (h : PH) (Q : Value → PH → Prop) : Prop :=
 Meets Try.prog 46 #[(.pointer a0)] h fun v6 h_1 =>
 oB (some v6) fun x6 =>
 xIte (!x6) (fun J_1 =>
 Q (.slice none 0 0) h_1)
 (fun J_1 =>
 J_1 h_1)
 (fun  (h_2 : PH) =>
 xNn a0 fun x9 =>
 oM (h_2.cell (x9.add 4)) fun x11 =>
 Meets Try.prog 60 #[(.map x11), (.int .i64 a1)] h_2 fun v13 h_3 =>
 oS (some v13) fun x13a x13l x13c =>
 Q (.slice x13a x13l x13c) h_3)
theorem P_model_Model_Left_eq (a0 : Option Addr) (a1 : Int) (h : PH) (Q : Value → PH → Prop) : dFn Try.prog Try.f23 A_model_Model_Left #[(.pointer a0), (.int .i64 a1)] h Q = P_model_Model_Left a0 a1 h Q := by kernel_rfl
theorem P_model_Model_Left_of {a0 : Option Addr} {a1 : Int} {h : PH} {Q : Value → PH → Prop} (x : P_model_Model_Left a0 a1 h Q) : Meets Try.prog 23 #[(.pointer a0), (.int .i64 a1)] h Q :=
  spec_of Try.func23 mix (by kernel_rfl) ((P_model_Model_Left_eq a0 a1 h Q).symm ▸ x)
/-- futtock/model.New -/
def A_model_New : Ann := .seq (.leaf) (.seq (.seq (.leaf) (.cond [] (.seq (.leaf) (.leaf)) (.leaf))) (.seq (.leaf) (.seq (.seq (.leaf) (.block [] (.loop [(30, (.int .i64))] (.seq (.leaf) (.seq (.cond [] (.leaf) (.leaf)) (.seq (.block [] (.leaf)) (.leaf))))))) (.seq (.leaf) (.leaf)))))
def P_model_New (a0 : Int) (a1 : Int) (a2 : Int) (h : PH) (Q : Value → PH → Prop) : Prop :=
 Meets Try.prog 45 #[(.int .i64 a0), (.int .i64 1), (.int .i64 8)] h fun v10 h_1 =>
 oB (some v10) fun x10 =>
 xSc (!x10) false (fun J_1 =>
 Meets Try.prog 45 #[(.int .i64 a1), (.int .i64 1), (.int .i64 8)] h_1 fun v14 h_2 =>
 oB (some v14) fun x14 =>
 J_1 (!x14) h_2)
 (fun r16 h_3 =>
 xSc r16 false (fun J_2 =>
 Meets Try.prog 45 #[(.int .i64 a2), (.int .i64 1), (.int .i64 60)] h_3 fun v19 h_4 =>
 oB (some v19) fun x19 =>
 J_2 (!x19) h_4)
 (fun r21 h_5 =>
 xIte r21 (fun J_3 =>
 Q (.tuple #[(.pointer none), (.int .i64 1)]) h_5)
 (fun J_3 =>
 J_3 h_5)
 (fun  (h_6 : PH) =>
 xMake h_6 4 #[(.bool false)] 1 a0 a0 fun x24a x24l x24c h_7 =>
 xNew h_7 (.map #[] 0) fun b25 h_8 =>
 xNew h_8 (.map #[] 0) fun b26 h_9 =>
 xNew h_9 (.cells #[(.int .i64 a2), (.slice none 0 0), (.slice x24a x24l x24c), (.map (some b25)), (.map (some b26))] 45 (0, 0)) fun b28 h_10 =>
 xBlk (fun J_4 =>
 ∃ n, xLoopN (fun _ _ => False) (fun J_5 =>
 (fun (x30 : Int) (h_11 : PH) =>
 xIte (decide ((x30 : Int) < a1)) (fun J_6 =>
 J_6 h_11)
 (fun J_6 =>
 J_4 h_11)
 (fun  (h_12 : PH) =>
 xBlk (fun J_7 =>
 xNn (some (⟨b28, 0, none⟩ : Addr)) fun x34 =>
 oS (h_12.cell (x34.add 1)) fun x36a x36l x36c =>
 xNew h_12 (.cells #[(.int .i64 (-1)), (.int .i64 0), (.int .i64 0)] 117 (0, 0)) fun b38 h_13 =>
 xApp h_13 117 3 24 x36a x36l x36c (.slice (some (⟨b38, 0, none⟩ : Addr)) 1 1) fun x39a x39l x39c h_14 =>
 xNn (some (⟨b28, 0, none⟩ : Addr)) fun x40 =>
 xSt 1 h_14 (x40.add 1) [(.slice x39a x39l x39c)] fun h_15 =>
 J_7 h_15)
 (fun  (h_16 : PH) =>
 J_5 (IntKind.wrap .i64 (x30 + 1)) h_16)))) n 0 h_10)
 (fun  (h_17 : PH) =>
 Q (.tuple #[(.pointer (some (⟨b28, 0, none⟩ : Addr))), (.int .i64 0)]) h_17))) h_3) h_1
theorem P_model_New_eq (a0 : Int) (a1 : Int) (a2 : Int) (h : PH) (Q : Value → PH → Prop) : dFn Try.prog Try.f11 A_model_New #[(.int .i64 a0), (.int .i64 a1), (.int .i64 a2)] h Q = P_model_New a0 a1 a2 h Q := by kernel_rfl
theorem P_model_New_of {a0 : Int} {a1 : Int} {a2 : Int} {h : PH} {Q : Value → PH → Prop} (x : P_model_New a0 a1 a2 h Q) : Meets Try.prog 11 #[(.int .i64 a0), (.int .i64 a1), (.int .i64 a2)] h Q :=
  spec_of Try.func11 mix (by kernel_rfl) ((P_model_New_eq a0 a1 a2 h Q).symm ▸ x)
/-- (*futtock/model.Model).Clone -/
def A_model_Model_Clone : Ann := .seq (.leaf) (.seq (.seq (.leaf) (.cond [] (.seq (.leaf) (.leaf)) (.leaf))) (.seq (.draw [(0, .flt), (1, .flt), (2, .flt), (3, .flt), (4, .flt), (5, .flt), (6, .flt), (7, .flt), (9, .flt), (10, .flt), (11, .flt), (12, .flt), (14, .flt), (15, .flt), (16, .flt), (17, .flt), (19, .flt), (20, .flt), (21, .flt), (22, .flt), (8, .eff), (13, .eff), (18, .eff), (23, .eff), (24, .flt), (25, .eff), (26, .flt)]) (.leaf)))
def P_model_Model_Clone (a0 : Option Addr) (h : PH) (Q : Value → PH → Prop) : Prop :=
 Meets Try.prog 46 #[(.pointer a0)] h fun v4 h_1 =>
 oB (some v4) fun x4 =>
 xIte (!x4) (fun J_1 =>
 Q (.pointer none) h_1)
 (fun J_1 =>
 J_1 h_1)
 (fun  (h_2 : PH) =>
 xDraw h_2 fun hs_1 =>
 xNn a0 fun x7 =>
 oI .i64 (hs_1.cell (x7.add 0)) fun x9 =>
 xNn a0 fun x11 =>
 oS (hs_1.cell (x11.add 1)) fun x13a x13l x13c =>
 xNn a0 fun x16 =>
 oS (hs_1.cell (x16.add 2)) fun x18a x18l x18c =>
 xNn a0 fun x21 =>
 oM (hs_1.cell (x21.add 3)) fun x23 =>
 xNn a0 fun x26 =>
 oM (hs_1.cell (x26.add 4)) fun x28 =>
 Meets Try.prog 47 #[(.slice x13a x13l x13c)] h_2 fun v14 h_3 =>
 oS (some v14) fun x14a x14l x14c =>
 PH.le hs_1 h_3 ∧
 Meets Try.prog 48 #[(.slice x18a x18l x18c)] h_3 fun v19 h_4 =>
 oS (some v19) fun x19a x19l x19c =>
 PH.le hs_1 h_4 ∧
 Meets Try.prog 49 #[(.map x23)] h_4 fun v24 h_5 =>
 oM (some v24) fun x24 =>
 PH.le hs_1 h_5 ∧
 Meets Try.prog 50 #[(.map x28)] h_5 fun v29 h_6 =>
 oM (some v29) fun x29 =>
 PH.le hs_1 h_6 ∧
 xNew h_6 (.cells #[(.int .i64 x9), (.slice x14a x14l x14c), (.slice x19a x19l x19c), (.map x24), (.map x29)] 45 (0, 0)) fun b31 h_7 =>
 PH.le hs_1 h_7 ∧
 Q (.pointer (some (⟨b31, 0, none⟩ : Addr))) h_7)
theorem P_model_Model_Clone_eq (a0 : Option Addr) (h : PH) (Q : Value → PH → Prop) : dFn Try.prog Try.f13 A_model_Model_Clone #[(.pointer a0)] h Q = P_model_Model_Clone a0 h Q := by kernel_rfl
theorem P_model_Model_Clone_of {a0 : Option Addr} {h : PH} {Q : Value → PH → Prop} (x : P_model_Model_Clone a0 h Q) : Meets Try.prog 13 #[(.pointer a0)] h Q :=
  spec_of Try.func13 mix (by kernel_rfl) ((P_model_Model_Clone_eq a0 h Q).symm ▸ x)
/-- (*futtock/model.Model).Same -/
def A_model_Model_Same : Ann := .seq (.leaf) (.seq (.seq (.leaf) (.cond [] (.seq (.leaf) (.leaf)) (.leaf))) (.seq (.draw [(0, .flt), (1, .flt), (2, .flt), (3, .flt), (4, .flt), (5, .flt), (6, .flt), (7, .flt), (8, .flt), (9, .flt), (10, .flt), (11, .flt), (12, .flt), (13, .flt), (14, .flt), (15, .flt), (16, .flt), (17, .flt), (18, .eff), (19, .flt), (20, .flt), (21, .flt), (22, .flt), (23, .flt), (24, .flt), (25, .flt), (26, .flt), (27, .flt), (28, .flt), (29, .eff), (30, .flt), (31, .flt), (32, .flt), (33, .flt), (34, .flt), (35, .flt), (36, .flt), (37, .flt), (38, .flt), (39, .flt), (40, .eff), (41, .flt), (42, .flt), (43, .flt), (44, .flt), (45, .flt), (46, .flt), (47, .flt), (48, .flt), (49, .flt), (50, .flt), (51, .eff), (52, .flt), (53, .flt)]) (.leaf)))
def P_model_Model_Same (a0 : Option Addr) (a1 : Option Addr) (h : PH) (Q : Value → PH → Prop) : Prop :=
 Meets Try.prog 46 #[(.pointer a0)] h fun v6 h_1 =>
 oB (some v6) fun x6 =>
 xSc (!x6) false (fun J_1 =>
 Meets Try.prog 46 #[(.pointer a1)] h_1 fun v10 h_2 =>
 oB (some v10) fun x10 =>
 J_1 (!x10) h_2)
 (fun r12 h_3 =>
 xIte r12 (fun J_2 =>
 Meets Try.prog 46 #[(.pointer a0)] h_3 fun v14 h_4 =>
 oB (some v14) fun x14 =>
 Meets Try.prog 46 #[(.pointer a1)] h_4 fun v16 h_5 =>
 oB (some v16) fun x16 =>
 Q (.bool (x14 == x16)) h_5)
 (fun J_2 =>
 J_2 h_3)
 (fun  (h_6 : PH) =>
 xDraw h_6 fun hs_1 =>
 xNn a0 fun x19 =>
 oI .i64 (hs_1.cell (x19.add 0)) fun x21 =>
 xNn a1 fun x23 =>
 oI .i64 (hs_1.cell (x23.add 0)) fun x25 =>
 xSc (x21 == x25) true (fun J_3 =>
 xNn a0 fun x29 =>
 oS (hs_1.cell (x29.add 1)) fun x31a x31l x31c =>
 xNn a1 fun x33 =>
 oS (hs_1.cell (x33.add 1)) fun x35a x35l x35c =>
 Meets Try.prog 53 #[(.slice x31a x31l x31c), (.slice x35a x35l x35c)] h_6 fun v36 h_7 =>
 oB (some v36) fun x36 =>
 PH.le hs_1 h_7 ∧
 J_3 x36 h_7)
 (fun r37 h_8 =>
 xSc r37 true (fun J_4 =>
 xNn a0 fun x40 =>
 oS (hs_1.cell (x40.add 2)) fun x42a x42l x42c =>
 xNn a1 fun x44 =>
 oS (hs_1.cell (x44.add 2)) fun x46a x46l x46c =>
 Meets Try.prog 54 #[(.slice x42a x42l x42c), (.slice x46a x46l x46c)] h_8 fun v47 h_9 =>
 oB (some v47) fun x47 =>
 PH.le hs_1 h_9 ∧
 J_4 x47 h_9)
 (fun r48 h_10 =>
 xSc r48 true (fun J_5 =>
 xNn a0 fun x51 =>
 oM (hs_1.cell (x51.add 3)) fun x53 =>
 xNn a1 fun x55 =>
 oM (hs_1.cell (x55.add 3)) fun x57 =>
 Meets Try.prog 55 #[(.map x53), (.map x57)] h_10 fun v58 h_11 =>
 oB (some v58) fun x58 =>
 PH.le hs_1 h_11 ∧
 J_5 x58 h_11)
 (fun r59 h_12 =>
 xSc r59 true (fun J_6 =>
 xNn a0 fun x62 =>
 oM (hs_1.cell (x62.add 4)) fun x64 =>
 xNn a1 fun x66 =>
 oM (hs_1.cell (x66.add 4)) fun x68 =>
 Meets Try.prog 56 #[(.map x64), (.map x68)] h_12 fun v69 h_13 =>
 oB (some v69) fun x69 =>
 PH.le hs_1 h_13 ∧
 J_6 x69 h_13)
 (fun r70 h_14 =>
 Q (.bool r70) h_14) h_12) h_10) h_8) h_6)) h_1
theorem P_model_Model_Same_eq (a0 : Option Addr) (a1 : Option Addr) (h : PH) (Q : Value → PH → Prop) : dFn Try.prog Try.f16 A_model_Model_Same #[(.pointer a0), (.pointer a1)] h Q = P_model_Model_Same a0 a1 h Q := by kernel_rfl
theorem P_model_Model_Same_of {a0 : Option Addr} {a1 : Option Addr} {h : PH} {Q : Value → PH → Prop} (x : P_model_Model_Same a0 a1 h Q) : Meets Try.prog 16 #[(.pointer a0), (.pointer a1)] h Q :=
  spec_of Try.func16 mix (by kernel_rfl) ((P_model_Model_Same_eq a0 a1 h Q).symm ▸ x)
/-- slices.Clone[[]futtock/model.monitor,futtock/model.monitor] -/
def A_slices_Clone_model_monitor_model_monitor : Ann := .seq (.leaf) (.seq (.seq (.leaf) (.cond [] (.seq (.leaf) (.leaf)) (.leaf))) (.seq (.leaf) (.leaf)))
def P_slices_Clone_model_monitor_model_monitor (a0a : Option Addr) (a0l : Nat) (a0c : Nat) (h : PH) (Q : Value → PH → Prop) : Prop :=
 xIte (Option.isNone a0a) (fun J_1 =>
 Q (.slice none 0 0) h)
 (fun J_1 =>
 J_1 h)
 (fun  (h_1 : PH) =>
 xNew h_1 (.cells #[] 117 (0, 0)) fun b5 h_2 =>
 xApp h_2 117 3 24 (some (⟨b5, 0, none⟩ : Addr)) 0 0 (.slice a0a a0l a0c) fun x7a x7l x7c h_3 =>
 Q (.slice x7a x7l x7c) h_3)
theorem P_slices_Clone_model_monitor_model_monitor_eq (a0a : Option Addr) (a0l : Nat) (a0c : Nat) (h : PH) (Q : Value → PH → Prop) : dFn Try.prog Try.f47 A_slices_Clone_model_monitor_model_monitor #[(.slice a0a a0l a0c)] h Q = P_slices_Clone_model_monitor_model_monitor a0a a0l a0c h Q := by kernel_rfl
theorem P_slices_Clone_model_monitor_model_monitor_of {a0a : Option Addr} {a0l : Nat} {a0c : Nat} {h : PH} {Q : Value → PH → Prop} (x : P_slices_Clone_model_monitor_model_monitor a0a a0l a0c h Q) : Meets Try.prog 47 #[(.slice a0a a0l a0c)] h Q :=
  spec_of Try.func47 mix (by kernel_rfl) ((P_slices_Clone_model_monitor_model_monitor_eq a0a a0l a0c h Q).symm ▸ x)
/-- slices.Clone[[]bool,bool] -/
def A_slices_Clone_bool_bool : Ann := .seq (.leaf) (.seq (.seq (.leaf) (.cond [] (.seq (.leaf) (.leaf)) (.leaf))) (.seq (.leaf) (.leaf)))
def P_slices_Clone_bool_bool (a0a : Option Addr) (a0l : Nat) (a0c : Nat) (h : PH) (Q : Value → PH → Prop) : Prop :=
 xIte (Option.isNone a0a) (fun J_1 =>
 Q (.slice none 0 0) h)
 (fun J_1 =>
 J_1 h)
 (fun  (h_1 : PH) =>
 xNew h_1 (.cells #[] 4 (0, 0)) fun b5 h_2 =>
 xApp h_2 4 1 1 (some (⟨b5, 0, none⟩ : Addr)) 0 0 (.slice a0a a0l a0c) fun x7a x7l x7c h_3 =>
 Q (.slice x7a x7l x7c) h_3)
theorem P_slices_Clone_bool_bool_eq (a0a : Option Addr) (a0l : Nat) (a0c : Nat) (h : PH) (Q : Value → PH → Prop) : dFn Try.prog Try.f48 A_slices_Clone_bool_bool #[(.slice a0a a0l a0c)] h Q = P_slices_Clone_bool_bool a0a a0l a0c h Q := by kernel_rfl
theorem P_slices_Clone_bool_bool_of {a0a : Option Addr} {a0l : Nat} {a0c : Nat} {h : PH} {Q : Value → PH → Prop} (x : P_slices_Clone_bool_bool a0a a0l a0c h Q) : Meets Try.prog 48 #[(.slice a0a a0l a0c)] h Q :=
  spec_of Try.func48 mix (by kernel_rfl) ((P_slices_Clone_bool_bool_eq a0a a0l a0c h Q).symm ▸ x)
/-- slices.Equal[[]futtock/model.monitor,futtock/model.monitor] -/
def A_slices_Equal_model_monitor_model_monitor : Ann := .seq (.leaf) (.seq (.seq (.leaf) (.cond [] (.seq (.leaf) (.leaf)) (.leaf))) (.seq (.seq (.leaf) (.block [] (.loop [(13, (.int .i64))] (.seq (.leaf) (.seq (.cond [] (.leaf) (.leaf)) (.seq (.block [] (.seq (.leaf) (.seq (.draw [(0, .flt), (1, .flt), (2, .flt), (3, .flt), (4, .flt), (5, .flt), (6, .flt), (7, .flt), (8, .flt)]) (.cond [] (.seq (.leaf) (.leaf)) (.leaf))))) (.leaf))))))) (.seq (.leaf) (.leaf))))
def P_slices_Equal_model_monitor_model_monitor (a0a : Option Addr) (a0l : Nat) (a0c : Nat) (a1a : Option Addr) (a1l : Nat) (a1c : Nat) (h : PH) (Q : Value → PH → Prop) : Prop :=
 xIte (((a0l : Nat) : Int) != ((a1l : Nat) : Int)) (fun J_1 =>
 Q (.bool false) h)
 (fun J_1 =>
 J_1 h)
 (fun  (h_1 : PH) =>
 xBlk (fun J_2 =>
 ∃ n, xLoopN (fun _ _ => False) (fun J_3 =>
 (fun (x13 : Int) (h_2 : PH) =>
 xIte (decide ((x13 : Int) < ((a0l : Nat) : Int))) (fun J_4 =>
 J_4 h_2)
 (fun J_4 =>
 J_2 h_2)
 (fun  (h_3 : PH) =>
 xBlk (fun J_5 =>
 xDraw h_3 fun hs_1 =>
 xIdx a0a a0l x13 3 fun x18 =>
 oI .i64 (hs_1.cell (x18.add 0)) fun x19_0 =>
 oI .i64 (hs_1.cell (x18.add 1)) fun x19_1 =>
 oI .i64 (hs_1.cell (x18.add 2)) fun x19_2 =>
 xIdx a1a a1l x13 3 fun x22 =>
 oI .i64 (hs_1.cell (x22.add 0)) fun x23_0 =>
 oI .i64 (hs_1.cell (x22.add 1)) fun x23_1 =>
 oI .i64 (hs_1.cell (x22.add 2)) fun x23_2 =>
 xEq Try.prog 117 (.agg #[(.int .i64 x19_0), (.int .i64 x19_1), (.int .i64 x19_2)]) (.agg #[(.int .i64 x23_0), (.int .i64 x23_1), (.int .i64 x23_2)]) fun x24 =>
 xIte (!x24) (fun J_6 =>
 Q (.bool false) h_3)
 (fun J_6 =>
 J_6 h_3)
 (fun  (h_4 : PH) =>
 J_5 h_4))
 (fun  (h_5 : PH) =>
 J_3 (IntKind.wrap .i64 (x13 + 1)) h_5)))) n 0 h_1)
 (fun  (h_6 : PH) =>
 Q (.bool true) h_6))
theorem P_slices_Equal_model_monitor_model_monitor_eq (a0a : Option Addr) (a0l : Nat) (a0c : Nat) (a1a : Option Addr) (a1l : Nat) (a1c : Nat) (h : PH) (Q : Value → PH → Prop) : dFn Try.prog Try.f53 A_slices_Equal_model_monitor_model_monitor #[(.slice a0a a0l a0c), (.slice a1a a1l a1c)] h Q = P_slices_Equal_model_monitor_model_monitor a0a a0l a0c a1a a1l a1c h Q := by kernel_rfl
theorem P_slices_Equal_model_monitor_model_monitor_of {a0a : Option Addr} {a0l : Nat} {a0c : Nat} {a1a : Option Addr} {a1l : Nat} {a1c : Nat} {h : PH} {Q : Value → PH → Prop} (x : P_slices_Equal_model_monitor_model_monitor a0a a0l a0c a1a a1l a1c h Q) : Meets Try.prog 53 #[(.slice a0a a0l a0c), (.slice a1a a1l a1c)] h Q :=
  spec_of Try.func53 mix (by kernel_rfl) ((P_slices_Equal_model_monitor_model_monitor_eq a0a a0l a0c a1a a1l a1c h Q).symm ▸ x)
/-- slices.Equal[[]bool,bool] -/
def A_slices_Equal_bool_bool : Ann := .seq (.leaf) (.seq (.seq (.leaf) (.cond [] (.seq (.leaf) (.leaf)) (.leaf))) (.seq (.seq (.leaf) (.block [] (.loop [(13, (.int .i64))] (.seq (.leaf) (.seq (.cond [] (.leaf) (.leaf)) (.seq (.block [] (.seq (.leaf) (.seq (.draw [(0, .flt), (1, .flt), (2, .flt), (3, .flt), (4, .flt), (5, .flt), (6, .flt), (7, .flt), (8, .flt)]) (.cond [] (.seq (.leaf) (.leaf)) (.leaf))))) (.leaf))))))) (.seq (.leaf) (.leaf))))
def P_slices_Equal_bool_bool (a0a : Option Addr) (a0l : Nat) (a0c : Nat) (a1a : Option Addr) (a1l : Nat) (a1c : Nat) (h : PH) (Q : Value → PH → Prop) : Prop :=
 xIte (((a0l : Nat) : Int) != ((a1l : Nat) : Int)) (fun J_1 =>
 Q (.bool false) h)
 (fun J_1 =>
 J_1 h)
 (fun  (h_1 : PH) =>
 xBlk (fun J_2 =>
 ∃ n, xLoopN (fun _ _ => False) (fun J_3 =>
 (fun (x13 : Int) (h_2 : PH) =>
 xIte (decide ((x13 : Int) < ((a0l : Nat) : Int))) (fun J_4 =>
 J_4 h_2)
 (fun J_4 =>
 J_2 h_2)
 (fun  (h_3 : PH) =>
 xBlk (fun J_5 =>
 xDraw h_3 fun hs_1 =>
 xIdx a0a a0l x13 1 fun x18 =>
 oB (hs_1.cell x18) fun x19 =>
 xIdx a1a a1l x13 1 fun x22 =>
 oB (hs_1.cell x22) fun x23 =>
 xIte (!(x19 == x23)) (fun J_6 =>
 Q (.bool false) h_3)
 (fun J_6 =>
 J_6 h_3)
 (fun  (h_4 : PH) =>
 J_5 h_4))
 (fun  (h_5 : PH) =>
 J_3 (IntKind.wrap .i64 (x13 + 1)) h_5)))) n 0 h_1)
 (fun  (h_6 : PH) =>
 Q (.bool true) h_6))
theorem P_slices_Equal_bool_bool_eq (a0a : Option Addr) (a0l : Nat) (a0c : Nat) (a1a : Option Addr) (a1l : Nat) (a1c : Nat) (h : PH) (Q : Value → PH → Prop) : dFn Try.prog Try.f54 A_slices_Equal_bool_bool #[(.slice a0a a0l a0c), (.slice a1a a1l a1c)] h Q = P_slices_Equal_bool_bool a0a a0l a0c a1a a1l a1c h Q := by kernel_rfl
theorem P_slices_Equal_bool_bool_of {a0a : Option Addr} {a0l : Nat} {a0c : Nat} {a1a : Option Addr} {a1l : Nat} {a1c : Nat} {h : PH} {Q : Value → PH → Prop} (x : P_slices_Equal_bool_bool a0a a0l a0c a1a a1l a1c h Q) : Meets Try.prog 54 #[(.slice a0a a0l a0c), (.slice a1a a1l a1c)] h Q :=
  spec_of Try.func54 mix (by kernel_rfl) ((P_slices_Equal_bool_bool_eq a0a a0l a0c a1a a1l a1c h Q).symm ▸ x)
/-- maps.Equal[map[futtock/model.place]int,map[futtock/model.place]int,futtock/model.place,int] -/
def A_maps_Equal_map_model_place_int_map_model_place_int_model_place_int : Ann := .seq (.leaf) (.seq (.seq (.leaf) (.cond [] (.seq (.leaf) (.leaf)) (.leaf))) (.seq (.seq (.leaf) (.block [] (.loop [] (.seq (.leaf) (.seq (.cond [] (.leaf) (.leaf)) (.block [] (.seq (.leaf) (.seq (.leaf) (.seq (.leaf) (.cond [] (.seq (.leaf) (.leaf)) (.leaf))))))))))) (.seq (.leaf) (.leaf))))
def P_maps_Equal_map_model_place_int_map_model_place_int_model_place_int (a0 : Option Nat) (a1 : Option Nat) (h : PH) (Q : Value → PH → Prop) : Prop :=
 xLen h a0 fun x10 =>
 xLen h a1 fun x12 =>
 xIte (x10 != x12) (fun J_1 =>
 Q (.bool false) h)
 (fun J_1 =>
 J_1 h)
 (fun  (h_1 : PH) =>
 xRange h_1 a0 fun b15 h_2 =>
 xBlk (fun J_2 =>
 ∃ n, xLoopN (fun _ => False) (fun J_3 =>
 (fun  (h_3 : PH) =>
 xNext h_3 b15 (fun h_4 =>
 oB (some (.bool false)) fun x17 =>
 xIte x17 (fun J_4 =>
 J_4 h_4)
 (fun J_4 =>
 J_2 h_4)
 (fun  (h_6 : PH) =>
 xBlk (fun J_5 =>
 xEntry h_6 b15 fun x18k x18u =>
 oAgg x18k 2 fun x19cs =>
 oI .i64 x19cs[0]? fun x19_0 =>
 oI .i64 x19cs[1]? fun x19_1 =>
 oI .i64 (some x18u) fun x20 =>
 xNew h_6 (.cells #[(.int .i64 0), (.int .i64 0)] 122 (0, 0)) fun b5 h_7 =>
 xSt 2 h_7 (⟨b5, 0, none⟩ : Addr) [(.int .i64 x19_0), (.int .i64 x19_1)] fun h_8 =>
 oI .i64 (h_8.cell ((⟨b5, 0, none⟩ : Addr).add 0)) fun x23_0 =>
 oI .i64 (h_8.cell ((⟨b5, 0, none⟩ : Addr).add 1)) fun x23_1 =>
 xLook Try.prog 122 h_8 a1 (.agg #[(.int .i64 x23_0), (.int .i64 x23_1)]) fun x24o =>
 oI .i64 (some (Option.getD x24o (.int .i64 0))) fun x24 =>
 oI .i64 (some (.int .i64 x24)) fun x25 =>
 oB (some (.bool (x24o).isSome)) fun x26 =>
 xSc (!x26) false (fun J_6 =>
 J_6 (x20 != x25) h_8)
 (fun r33 h_9 =>
 xIte r33 (fun J_7 =>
 Q (.bool false) h_9)
 (fun J_7 =>
 J_7 h_9)
 (fun  (h_10 : PH) =>
 J_5 h_10)) h_8)
 (fun  (h_11 : PH) =>
 J_3 h_11)))
 (fun x16k x16u h_5 =>
 oB (some (.bool true)) fun x17_1 =>
 xIte x17_1 (fun J_8 =>
 J_8 h_5)
 (fun J_8 =>
 J_2 h_5)
 (fun  (h_12 : PH) =>
 xBlk (fun J_9 =>
 xEntry h_12 b15 fun x18k_1 x18u_1 =>
 oAgg x18k_1 2 fun x19cs_1 =>
 oI .i64 x19cs_1[0]? fun x19_0_1 =>
 oI .i64 x19cs_1[1]? fun x19_1_1 =>
 oI .i64 (some x18u_1) fun x20_1 =>
 xNew h_12 (.cells #[(.int .i64 0), (.int .i64 0)] 122 (0, 0)) fun b5_1 h_13 =>
 xSt 2 h_13 (⟨b5_1, 0, none⟩ : Addr) [(.int .i64 x19_0_1), (.int .i64 x19_1_1)] fun h_14 =>
 oI .i64 (h_14.cell ((⟨b5_1, 0, none⟩ : Addr).add 0)) fun x23_0_1 =>
 oI .i64 (h_14.cell ((⟨b5_1, 0, none⟩ : Addr).add 1)) fun x23_1_1 =>
 xLook Try.prog 122 h_14 a1 (.agg #[(.int .i64 x23_0_1), (.int .i64 x23_1_1)]) fun x24o_1 =>
 oI .i64 (some (Option.getD x24o_1 (.int .i64 0))) fun x24_1 =>
 oI .i64 (some (.int .i64 x24_1)) fun x25_1 =>
 oB (some (.bool (x24o_1).isSome)) fun x26_1 =>
 xSc (!x26_1) false (fun J_10 =>
 J_10 (x20_1 != x25_1) h_14)
 (fun r33_1 h_15 =>
 xIte r33_1 (fun J_11 =>
 Q (.bool false) h_15)
 (fun J_11 =>
 J_11 h_15)
 (fun  (h_16 : PH) =>
 J_9 h_16)) h_14)
 (fun  (h_17 : PH) =>
 J_3 h_17))))) n h_2)
 (fun  (h_18 : PH) =>
 Q (.bool true) h_18))
theorem P_maps_Equal_map_model_place_int_map_model_place_int_model_place_int_eq (a0 : Option Nat) (a1 : Option Nat) (h : PH) (Q : Value → PH → Prop) : dFn Try.prog Try.f55 A_maps_Equal_map_model_place_int_map_model_place_int_model_place_int #[(.map a0), (.map a1)] h Q = P_maps_Equal_map_model_place_int_map_model_place_int_model_place_int a0 a1 h Q := by kernel_rfl
theorem P_maps_Equal_map_model_place_int_map_model_place_int_model_place_int_of {a0 : Option Nat} {a1 : Option Nat} {h : PH} {Q : Value → PH → Prop} (x : P_maps_Equal_map_model_place_int_map_model_place_int_model_place_int a0 a1 h Q) : Meets Try.prog 55 #[(.map a0), (.map a1)] h Q :=
  spec_of Try.func55 mix (by kernel_rfl) ((P_maps_Equal_map_model_place_int_map_model_place_int_model_place_int_eq a0 a1 h Q).symm ▸ x)
/-- maps.Equal[map[futtock/model.place]futtock/model.left,map[futtock/model.place]futtock/model.left,futtock/model.place,futtock/model.left] -/
def A_maps_Equal_map_model_place_model_left_map_model_place_model_left_model_place_model_left : Ann := .seq (.leaf) (.seq (.seq (.leaf) (.cond [] (.seq (.leaf) (.leaf)) (.leaf))) (.seq (.seq (.leaf) (.block [] (.loop [] (.seq (.leaf) (.seq (.cond [] (.leaf) (.leaf)) (.block [] (.seq (.leaf) (.seq (.leaf) (.seq (.leaf) (.cond [] (.seq (.leaf) (.leaf)) (.leaf))))))))))) (.seq (.leaf) (.leaf))))
def P_maps_Equal_map_model_place_model_left_map_model_place_model_left_model_place_model_left (a0 : Option Nat) (a1 : Option Nat) (h : PH) (Q : Value → PH → Prop) : Prop :=
 xLen h a0 fun x10 =>
 xLen h a1 fun x12 =>
 xIte (x10 != x12) (fun J_1 =>
 Q (.bool false) h)
 (fun J_1 =>
 J_1 h)
 (fun  (h_1 : PH) =>
 xRange h_1 a0 fun b15 h_2 =>
 xBlk (fun J_2 =>
 ∃ n, xLoopN (fun _ => False) (fun J_3 =>
 (fun  (h_3 : PH) =>
 xNext h_3 b15 (fun h_4 =>
 oB (some (.bool false)) fun x17 =>
 xIte x17 (fun J_4 =>
 J_4 h_4)
 (fun J_4 =>
 J_2 h_4)
 (fun  (h_6 : PH) =>
 xBlk (fun J_5 =>
 xEntry h_6 b15 fun x18k x18u =>
 oAgg x18k 2 fun x19cs =>
 oI .i64 x19cs[0]? fun x19_0 =>
 oI .i64 x19cs[1]? fun x19_1 =>
 oAgg x18u 2 fun x20cs =>
 oI .i64 x20cs[0]? fun x20_0 =>
 oI .i64 x20cs[1]? fun x20_1 =>
 xNew h_6 (.cells #[(.int .i64 0), (.int .i64 0)] 122 (0, 0)) fun b5 h_7 =>
 xNew h_7 (.cells #[(.int .i64 0), (.int .i64 0)] 125 (0, 0)) fun b6 h_8 =>
 xSt 2 h_8 (⟨b5, 0, none⟩ : Addr) [(.int .i64 x19_0), (.int .i64 x19_1)] fun h_9 =>
 xSt 2 h_9 (⟨b6, 0, none⟩ : Addr) [(.int .i64 x20_0), (.int .i64 x20_1)] fun h_10 =>
 oI .i64 (h_10.cell ((⟨b5, 0, none⟩ : Addr).add 0)) fun x23_0 =>
 oI .i64 (h_10.cell ((⟨b5, 0, none⟩ : Addr).add 1)) fun x23_1 =>
 xLook Try.prog 122 h_10 a1 (.agg #[(.int .i64 x23_0), (.int .i64 x23_1)]) fun x24o =>
 oAgg (Option.getD x24o (.agg #[(.int .i64 0), (.int .i64 0)])) 2 fun x24cs =>
 oI .i64 x24cs[0]? fun x24_0 =>
 oI .i64 x24cs[1]? fun x24_1 =>
 oAgg (.agg #[(.int .i64 x24_0), (.int .i64 x24_1)]) 2 fun x25cs =>
 oI .i64 x25cs[0]? fun x25_0 =>
 oI .i64 x25cs[1]? fun x25_1 =>
 oB (some (.bool (x24o).isSome)) fun x26 =>
 xNew h_10 (.cells #[(.int .i64 0), (.int .i64 0)] 125 (0, 0)) fun b7 h_11 =>
 xSt 2 h_11 (⟨b7, 0, none⟩ : Addr) [(.int .i64 x25_0), (.int .i64 x25_1)] fun h_12 =>
 xSc (!x26) false (fun J_6 =>
 oI .i64 (h_12.cell ((⟨b6, 0, none⟩ : Addr).add 0)) fun x30_0 =>
 oI .i64 (h_12.cell ((⟨b6, 0, none⟩ : Addr).add 1)) fun x30_1 =>
 oI .i64 (h_12.cell ((⟨b7, 0, none⟩ : Addr).add 0)) fun x31_0 =>
 oI .i64 (h_12.cell ((⟨b7, 0, none⟩ : Addr).add 1)) fun x31_1 =>
 xEq Try.prog 125 (.agg #[(.int .i64 x30_0), (.int .i64 x30_1)]) (.agg #[(.int .i64 x31_0), (.int .i64 x31_1)]) fun x32 =>
 J_6 (!x32) h_12)
 (fun r33 h_13 =>
 xIte r33 (fun J_7 =>
 Q (.bool false) h_13)
 (fun J_7 =>
 J_7 h_13)
 (fun  (h_14 : PH) =>
 J_5 h_14)) h_12)
 (fun  (h_15 : PH) =>
 J_3 h_15)))
 (fun x16k x16u h_5 =>
 oB (some (.bool true)) fun x17_1 =>
 xIte x17_1 (fun J_8 =>
 J_8 h_5)
 (fun J_8 =>
 J_2 h_5)
 (fun  (h_16 : PH) =>
 xBlk (fun J_9 =>
 xEntry h_16 b15 fun x18k_1 x18u_1 =>
 oAgg x18k_1 2 fun x19cs_1 =>
 oI .i64 x19cs_1[0]? fun x19_0_1 =>
 oI .i64 x19cs_1[1]? fun x19_1_1 =>
 oAgg x18u_1 2 fun x20cs_1 =>
 oI .i64 x20cs_1[0]? fun x20_0_1 =>
 oI .i64 x20cs_1[1]? fun x20_1_1 =>
 xNew h_16 (.cells #[(.int .i64 0), (.int .i64 0)] 122 (0, 0)) fun b5_1 h_17 =>
 xNew h_17 (.cells #[(.int .i64 0), (.int .i64 0)] 125 (0, 0)) fun b6_1 h_18 =>
 xSt 2 h_18 (⟨b5_1, 0, none⟩ : Addr) [(.int .i64 x19_0_1), (.int .i64 x19_1_1)] fun h_19 =>
 xSt 2 h_19 (⟨b6_1, 0, none⟩ : Addr) [(.int .i64 x20_0_1), (.int .i64 x20_1_1)] fun h_20 =>
 oI .i64 (h_20.cell ((⟨b5_1, 0, none⟩ : Addr).add 0)) fun x23_0_1 =>
 oI .i64 (h_20.cell ((⟨b5_1, 0, none⟩ : Addr).add 1)) fun x23_1_1 =>
 xLook Try.prog 122 h_20 a1 (.agg #[(.int .i64 x23_0_1), (.int .i64 x23_1_1)]) fun x24o_1 =>
 oAgg (Option.getD x24o_1 (.agg #[(.int .i64 0), (.int .i64 0)])) 2 fun x24cs_1 =>
 oI .i64 x24cs_1[0]? fun x24_0_1 =>
 oI .i64 x24cs_1[1]? fun x24_1_1 =>
 oAgg (.agg #[(.int .i64 x24_0_1), (.int .i64 x24_1_1)]) 2 fun x25cs_1 =>
 oI .i64 x25cs_1[0]? fun x25_0_1 =>
 oI .i64 x25cs_1[1]? fun x25_1_1 =>
 oB (some (.bool (x24o_1).isSome)) fun x26_1 =>
 xNew h_20 (.cells #[(.int .i64 0), (.int .i64 0)] 125 (0, 0)) fun b7_1 h_21 =>
 xSt 2 h_21 (⟨b7_1, 0, none⟩ : Addr) [(.int .i64 x25_0_1), (.int .i64 x25_1_1)] fun h_22 =>
 xSc (!x26_1) false (fun J_10 =>
 oI .i64 (h_22.cell ((⟨b6_1, 0, none⟩ : Addr).add 0)) fun x30_0_1 =>
 oI .i64 (h_22.cell ((⟨b6_1, 0, none⟩ : Addr).add 1)) fun x30_1_1 =>
 oI .i64 (h_22.cell ((⟨b7_1, 0, none⟩ : Addr).add 0)) fun x31_0_1 =>
 oI .i64 (h_22.cell ((⟨b7_1, 0, none⟩ : Addr).add 1)) fun x31_1_1 =>
 xEq Try.prog 125 (.agg #[(.int .i64 x30_0_1), (.int .i64 x30_1_1)]) (.agg #[(.int .i64 x31_0_1), (.int .i64 x31_1_1)]) fun x32_1 =>
 J_10 (!x32_1) h_22)
 (fun r33_1 h_23 =>
 xIte r33_1 (fun J_11 =>
 Q (.bool false) h_23)
 (fun J_11 =>
 J_11 h_23)
 (fun  (h_24 : PH) =>
 J_9 h_24)) h_22)
 (fun  (h_25 : PH) =>
 J_3 h_25))))) n h_2)
 (fun  (h_26 : PH) =>
 Q (.bool true) h_26))
theorem P_maps_Equal_map_model_place_model_left_map_model_place_model_left_model_place_model_left_eq (a0 : Option Nat) (a1 : Option Nat) (h : PH) (Q : Value → PH → Prop) : dFn Try.prog Try.f56 A_maps_Equal_map_model_place_model_left_map_model_place_model_left_model_place_model_left #[(.map a0), (.map a1)] h Q = P_maps_Equal_map_model_place_model_left_map_model_place_model_left_model_place_model_left a0 a1 h Q := by kernel_rfl
theorem P_maps_Equal_map_model_place_model_left_map_model_place_model_left_model_place_model_left_of {a0 : Option Nat} {a1 : Option Nat} {h : PH} {Q : Value → PH → Prop} (x : P_maps_Equal_map_model_place_model_left_map_model_place_model_left_model_place_model_left a0 a1 h Q) : Meets Try.prog 56 #[(.map a0), (.map a1)] h Q :=
  spec_of Try.func56 mix (by kernel_rfl) ((P_maps_Equal_map_model_place_model_left_map_model_place_model_left_model_place_model_left_eq a0 a1 h Q).symm ▸ x)
end Go.Proofs.Ytnnedfhpicdacaa
