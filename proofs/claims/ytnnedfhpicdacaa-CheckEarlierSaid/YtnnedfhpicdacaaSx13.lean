/-
  SX, part 13: code in a round of a range over a function, and iterators: text's order alone, no guards.
-/
import Derived.Test.YtnnedfhpicdacaaSx12
import Derived.RangeFuncIn
import Derived.RangeFuncSeq
import Derived.RangeFuncCalls
import Derived.LoopNIn
import Derived.OrdersIn
namespace Go.Sx
open Go

/-- A fence that keeps nothing out. -/
structure Wd (F : Fence) : Prop where
  fn : ∀ f, F.fn f
  depth : F.depth = none
  calls : ∀ {n : Nat} {P : Program} {f : FuncId} {args : Array Value} {w : World} {R : Ending → World → Prop}, Calls P f args w R → CallsIn F n P f args w R
  round : ∀ {n : Nat} {P : Program} {l : Nat} {f : FuncId} {tmps : Array Value} {x y : Code} {w : World} {R : Ending → World → Prop}, RoundIn Fence.wide n P l f tmps x y w R → RoundIn F n P l f tmps x y w R
theorem wd_wide : Wd Fence.wide := ⟨fun _ => trivial, rfl, callsIn_wide.2, fun h => h⟩
theorem wd_round (l : Nat) : Wd (Fence.wide.inRound l) := ⟨fun _ => trivial, rfl, fun h => CallsIn.inRound l (callsIn_wide.2 h), fun h => h⟩

/-- A call of yield: whatever the round does. -/
def xYield (P : Program) (l : Nat) (args : Array Value) (h : PH) (K : Value → PH → Prop) : Prop :=
  ∀ (n : Nat) (W w : World), St W h w → YieldAt Fence.wide n P l args w fun e w' => ∃ v h', e = .returned v ∧ St W h' w' ∧ K v h'

def isDefer : Op → Bool
  | .defer _ => true
  | _ => false
/-- The loop whose round a call runs. -/
def yieldOf (e : Env) (o : Oper) : Option (Nat × Array Value) :=
  match o.op with
  | .call { callee := .value f, args := as, .. } => (match ev e f with
    | some (.func (.yield l) ⟨[]⟩ ⟨[]⟩) => some (l, as.map (evD e))
    | _ => none)
  | _ => none
def yOp (P : Program) (o : Oper) (e : Env) (h : PH) (K : Value → PH → Prop) : Prop :=
  match yieldOf e o with
  | some (l, args) => (match known e o with
    | true => xYield P l args h fun v h' => oRes (resOf P o.type) v fun u => K u h'
    | false => False)
  | none => aOp P o e h K

def dOpsI (P : Program) : List Oper → Env → PH → (Env → PH → Prop) → Prop
  | [], e, h, K => K e h
  | o :: r, e, h, K => match o.guard.isNone && !isDefer o.op with
    | true => yOp P o e h fun v h' => dOpsI P r (e.put o.dst v) h' K
    | false => False

theorem aOpIn_sound {F : Fence} (wd : Wd F) {n : Nat} {P : Program} {o : Oper} {e : Env} {h : PH} {K : Value → PH → Prop} (hnd : isDefer o.op = false) (hk : yOp P o e h K) {W : World} {a : Act} {w : World} (f : Fits e a) (st : St W h w) (Q : Exit → Act → World → Prop) :
    o.wpIn F n P a w (fun a' w' => ∃ v h', a' = a.put o.dst v ∧ St W h' w' ∧ K v h') Q := by
  refine ⟨fun f _ => wd.fn f, ?_⟩
  rw [Oper.semAt_eq _ _ _ (fun c hc => by rw [hc] at hnd; cases hnd)]
  have acts : ∀ nx w', (execOp a.eval o).run P w = .ok nx w' → (∃ h', St W h' w' ∧ dNext P K nx h') → o.uponIn F n P a (fun a' w' => ∃ v h', a' = a.put o.dst v ∧ St W h' w' ∧ K v h') Q ((execOp a.eval o).run P w) := by
    intro nx w' hr hd
    obtain ⟨h', st', k⟩ := hd
    rw [hr]
    cases nx <;> first | exact k.elim | skip
    · exact ⟨_, h', rfl, st', k⟩
    · exact ⟨_, h', rfl, st', k⟩
    · rename_i fn args
      refine ⟨fun hd => (by rw [wd.depth] at hd; cases hd), wd.calls ((k W w' st').mono ?_)⟩
      rintro e w'' ⟨v, h'', rfl, st'', k⟩
      exact ⟨v, h'', rfl, st'', k⟩
  unfold yOp at hk
  split at hk
  · rename_i l args hy
    have hn : known e o = true := by
      cases hkn : known e o with
      | true => rfl
      | false => rw [hkn] at hk; exact hk.elim
    rw [hn] at hk
    simp only [] at hk
    obtain ⟨fn, tmps, assign, body, hr, hround⟩ := hk (n - 1) W w st
    have hrun : (execOp a.eval o).run P w = (Instr.yield l args).run P w := by
      rw [known_exec f hn]
      unfold yieldOf at hy
      split at hy
      · rename_i f as ts ho
        split at hy
        · rename_i l' hf
          simp only [Option.some.injEq, Prod.mk.injEq] at hy
          obtain ⟨rfl, rfl⟩ := hy
          have hev : evD e f = .func (.yield l') #[] #[] := by simp [evD, hf]
          unfold execOp
          rw [ho]
          simp only [resolve, hev]
          simp [go_sem, invoke]
        · cases hy
      · cases hy
    rw [hrun, hr]
    refine ⟨fun hd => (by rw [wd.depth] at hd; cases hd), wd.round (hround.mono ?_)⟩
    rintro e w' ⟨v, h', rfl, st', k⟩
    exact ⟨v, h', rfl, st', oRes_same (K := fun u => K u h') k⟩
  · unfold aOp at hk
    split at hk
    · obtain ⟨v, k, hr⟩ := fOp_sound hk
      exact acts _ _ (hr W a w f st) ⟨h, st, k⟩
    · unfold gOp at hk
      split at hk
      · rename_i hn
        obtain ⟨nx, w', h', hr, st', k⟩ := gRaw_sound hk W w st
        rw [← known_exec f hn] at hr
        exact acts _ _ hr ⟨h', st', k⟩
      · exact hk.elim

theorem dOpsI_sound {F : Fence} (wd : Wd F) {dp : Nat} {P : Program} {W : World} {ops : Array Oper} {m : Nat} {Q : Exit → Act → World → Prop} (hm : InB ops m) : ∀ (l : List Oper) (i : Nat) (e : Env) (h : PH) (k : Env → PH → Prop) (a0 a : Act) (w : World),
    dOpsI P l e h k → Fits e a → St W h w → m ≤ a.tmps.size → (∀ j, ops[i + j]? = l[j]?) → Keep (ops.toList.filterMap (·.dst)) a0 a → (∀ o ∈ l, ∀ t, o.dst = some t → t ∈ ops.toList.filterMap (·.dst)) →
    (∀ a' w' e' h', Keep (ops.toList.filterMap (·.dst)) a0 a' → Fits e' a' → St W h' w' → k e' h' → Q .normal a' w') → wpOpsIn F dp P ops Q (List.range' i l.length) a w := by
  intro l
  induction l with
  | nil => exact fun i e h k a0 a w hd hf st hsz hops hk _ fin => fin a w e h hk hf st hd
  | cons o r ih =>
    intro i e h k a0 a w hd hf st hsz hops hk hdst fin
    unfold dOpsI at hd
    have hg : (o.guard.isNone && !isDefer o.op) = true := by
      cases hkn : (o.guard.isNone && !isDefer o.op) with
      | true => rfl
      | false => rw [hkn] at hd; exact hd.elim
    rw [hg] at hd
    simp only [] at hd
    simp only [Bool.and_eq_true, Bool.not_eq_true'] at hg
    have hi : ops[i]? = some o := by have := hops 0; simpa using this
    rw [List.length_cons, List.range'_succ, wpOpsIn_cons]
    unfold wpOpIn
    rw [hi]
    simp only []
    have hgn : o.guard = none := by simpa using hg.1
    rw [if_pos (by unfold Region.wanted; rw [hgn])]
    refine Oper.wpIn_mono ?_ (aOpIn_sound wd hg.2 hd hf st Q)
    rintro a' w' ⟨v, h', rfl, st', hd'⟩
    have hdl : ∀ t, o.dst = some t → t < a.tmps.size := fun t ht => Nat.lt_of_lt_of_le (hm i o t hi ht) hsz
    refine ih (i + 1) _ h' k a0 _ w' hd' (hf.put o.dst v hdl) st' ?_ ?_ ?_ (fun o' ho' => hdst o' (List.mem_cons_of_mem _ ho')) fin
    · cases o.dst <;> simpa [Act.put] using hsz
    · intro j
      have := hops (j + 1)
      rw [show i + 1 + j = i + (j + 1) from by omega, this]; simp
    · exact hk.trans (Keep.put _ _ _ _ (hdst o (List.mem_cons_self ..)))

def dCodeI (P : Program) : Code → Ann → Env → PH → (Env → PH → Prop) → (Nat → Env → PH → Prop) → (Env → PH → Prop) → Prop
  | .skip, _, e, h, k, _, _ => k e h
  | .region _ ops draw, _, e, h, k, _, _ =>
    match draw with
    | false => dOpsI P ops.toList e h k
    | true => False
  | .seq x y, ann, e, h, k, ke, kr =>
    match ann with
    | .seq ax ay => dCodeI P x ax e h (fun e' h' => dCodeI P y ay e' h' k ke kr) ke kr
    | _ => False
  | .cond c x y, ann, e, h, k, ke, kr =>
    match ann, ev e c with
    | .cond sl ax ay, some (.bool b) => xIte b (fun J => dCodeI P x ax e h (appF sl J) ke kr) (fun J => dCodeI P y ay e h (appF sl J) ke kr) (absF sl fun es h' => k (es ++ e.drop (writes x ++ writes y)) h')
    | _, _ => False
  | .block id c, ann, e, h, k, ke, kr =>
    match ann with
    | .block sl a => xBlk (fun J => dCodeI P c a e h (appF sl J) (fun id' => match Nat.beq id' id with | true => appF sl J | false => ke id') kr) (absF sl fun es h' => k (es ++ e.drop (writes c)) h')
    | _ => False
  | .loop c, ann, e, h, _, ke, kr =>
    match ann with
    | .loop sl a => ∃ n, appF sl (xLoopN (botF sl) (fun J => absF sl fun es h' => dCodeI P c a (es ++ e.drop (writes c)) h' (appF sl J) ke kr) n) e h
    | _ => False
  | .exit id, _, e, h, _, ke, _ => ke id e h
  | .ret, _, e, h, _, _, kr => kr e h
  | _, _, _, _, _, _, _ => False


theorem dCodeI_sound {P : Program} {F : Fence} (wd : Wd F) {dp : Nat} {W : World} {m : Nat} : ∀ (c : Code) (ann : Ann) (e : Env) (h : PH) (k : Env → PH → Prop) (ke : Nat → Env → PH → Prop) (kr : Env → PH → Prop) (a : Act) (w : World),
    dCodeI P c ann e h k ke kr → codeIn m c = true → Fits e a → St W h w → m ≤ a.tmps.size → c.wpIn F dp P (Post W (writes c) a k ke kr) a w := by
  intro c
  induction c with
  | skip => exact fun ann e h k ke kr a w hd _ hf st _ => wpIn_skip ⟨Keep.refl _ _, e, h, hf, st, hd⟩
  | region id ops draw =>
    intro ann e h k ke kr a w hd hin hf st hsz
    have hm : InB ops m := by
      intro i o t ho ht
      have := List.all_eq_true.1 hin t (List.mem_filterMap.2 ⟨o, by rw [Array.mem_toList_iff]; exact Array.mem_of_getElem? ho, ht⟩)
      exact Nat.le_of_ble_eq_true this
    cases draw with
    | false =>
      refine wpIn_region ?_
      have := dOpsI_sound wd (dp := dp) (W := W) (Q := Post W (writes (.region id ops false)) a k ke kr) hm ops.toList 0 e h k a a w hd hf st hsz (fun i => by simp) (Keep.refl _ _) (fun o ho t ht => List.mem_filterMap.2 ⟨o, ho, ht⟩) (fun a' w' e' h' hk' hf' st' hK => ⟨hk', e', h', hf', st', hK⟩)
      rw [List.range_eq_range']
      simpa using this
    | true => exact hd.elim
  | seq x y ihx ihy =>
    intro ann e h k ke kr a w hd hin hf st hsz
    unfold dCodeI at hd
    split at hd
    · rename_i ax ay
      have hx : codeIn m x = true := codeIn_sub hin fun t ht => List.mem_append_left _ ht
      have hy : codeIn m y = true := codeIn_sub hin fun t ht => List.mem_append_right _ ht
      refine wpIn_seq (wpIn_mono (ihx ax e h _ ke kr a w hd hx hf st hsz) ?_)
      intro ex a' w' hp
      cases ex with
      | normal =>
        obtain ⟨hk, e', h', hf', st', hd'⟩ := hp
        refine wpIn_mono (ihy ay e' h' k ke kr a' w' hd' hy hf' st' (by rw [hk.1]; exact hsz)) ?_
        intro ex a'' w'' hp
        have up : ∀ b, Keep (writes y) a' b → Keep (writes (.seq x y)) a b := fun b hb => (hk.mono fun t ht => List.mem_append_left _ ht).trans (hb.mono fun t ht => List.mem_append_right _ ht)
        cases ex with
        | normal => exact ⟨up _ hp.1, hp.2⟩
        | exit id => exact ⟨up _ hp.1, hp.2⟩
        | ret => exact ⟨hp.1.trans hk.3, hp.2⟩
        | goto l => exact hp
        | panic ch => exact hp
        | outgrown => exact hp
      | exit id => exact ⟨hp.1.mono fun t ht => List.mem_append_left _ ht, hp.2⟩
      | ret => exact hp
      | goto l => exact hp
      | panic ch => exact hp
      | outgrown => exact hp
    · exact hd.elim
  | cond c x y ihx ihy =>
    intro ann e h k ke kr a w hd hin hf st hsz
    unfold dCodeI at hd
    split at hd
    · rename_i sl ax ay b hb
      have hx : codeIn m x = true := codeIn_sub hin fun t ht => List.mem_append_left _ ht
      have hy : codeIn m y = true := codeIn_sub hin fun t ht => List.mem_append_right _ ht
      refine wpIn_cond_split (hf.ev hb) ?_ ?_
      · intro ht
        refine wpIn_mono (ihx ax e h _ ke kr a w (hd.1 ht) hx hf st hsz) ?_
        intro ex a' w' hp
        cases ex with
        | normal =>
          obtain ⟨hk, e', h', hf', st', hd'⟩ := hp
          obtain ⟨es, h1, h2⟩ := app_abs hd'
          have hk' : Keep (writes x ++ writes y) a a' := hk.mono fun t ht => List.mem_append_left _ ht
          exact ⟨hk', _, h', fits_join hf hf' hk' h1, st', h2⟩
        | exit id => exact ⟨hp.1.mono fun t ht => List.mem_append_left _ ht, hp.2⟩
        | ret => exact hp
        | goto l => exact hp
        | panic ch => exact hp
        | outgrown => exact hp
      · intro ht
        refine wpIn_mono (ihy ay e h _ ke kr a w (hd.2 ht) hy hf st hsz) ?_
        intro ex a' w' hp
        cases ex with
        | normal =>
          obtain ⟨hk, e', h', hf', st', hd'⟩ := hp
          obtain ⟨es, h1, h2⟩ := app_abs hd'
          have hk' : Keep (writes x ++ writes y) a a' := hk.mono fun t ht => List.mem_append_right _ ht
          exact ⟨hk', _, h', fits_join hf hf' hk' h1, st', h2⟩
        | exit id => exact ⟨hp.1.mono fun t ht => List.mem_append_right _ ht, hp.2⟩
        | ret => exact hp
        | goto l => exact hp
        | panic ch => exact hp
        | outgrown => exact hp
    · exact hd.elim
  | block id c ih =>
    intro ann e h k ke kr a w hd hin hf st hsz
    unfold dCodeI at hd
    split at hd
    · rename_i sl ax
      refine wpIn_block (wpIn_mono (ih ax e h _ _ kr a w hd hin hf st hsz) ?_)
      have fin : ∀ a' w' e' h', Keep (writes c) a a' → Fits e' a' → St W h' w' → appF sl (absF sl fun es h' => k (es ++ e.drop (writes c)) h') e' h' → Post W (writes (.block id c)) a k ke kr .normal a' w' := by
        intro a' w' e' h' hk hf' st' hd'
        obtain ⟨es, h1, h2⟩ := app_abs hd'
        exact ⟨hk, _, h', fits_join hf hf' hk h1, st', h2⟩
      intro ex a' w' hp
      cases ex with
      | normal =>
        obtain ⟨hk, e', h', hf', st', hd'⟩ := hp
        exact fin a' w' e' h' hk hf' st' hd'
      | exit id' =>
        obtain ⟨hk, e', h', hf', st', hd'⟩ := hp
        show if id' = id then _ else _
        cases hb : Nat.beq id' id with
        | true =>
          rw [hb] at hd'
          rw [if_pos (Nat.eq_of_beq_eq_true hb)]
          exact fin a' w' e' h' hk hf' st' hd'
        | false =>
          rw [hb] at hd'
          rw [if_neg (fun e => by subst e; simp at hb)]
          exact ⟨hk, e', h', hf', st', hd'⟩
      | ret => exact hp
      | goto l => exact hp
      | panic ch => exact hp
      | outgrown => exact hp
    · exact hd.elim
  | loop c ih =>
    intro ann e h k ke kr a w hd hin hf st hsz
    unfold dCodeI at hd
    split at hd
    · rename_i sl ax
      obtain ⟨n, hd⟩ := hd
      refine wpIn_loop_rounds n ?_
      have claim : ∀ n a' w' e' h', appF sl (xLoopN (botF sl) (fun J => absF sl fun es h' => dCodeI P c ax (es ++ e.drop (writes c)) h' (appF sl J) ke kr) n) e' h' → Keep (writes c) a a' → Fits e' a' → St W h' w' → Code.roundsIn F dp P c (Post W (writes (.loop c)) a k ke kr) n a' w' := by
        intro n
        induction n with
        | zero =>
          intro a' w' e' h' hd' _ _ _
          obtain ⟨es, _, h2⟩ := app_abs (F := fun _ _ => False) hd'
          exact h2
        | succ n ihn =>
          intro a' w' e' h' hd' hk hf' st'
          obtain ⟨es, h1, h2⟩ := app_abs (F := fun es h' => dCodeI P c ax (es ++ e.drop (writes c)) h' (appF sl (xLoopN (botF sl) _ n)) ke kr) hd'
          rw [roundsIn_succ]
          refine wpIn_mono (ih ax _ h' _ ke kr a' w' h2 hin (fits_join hf hf' hk h1) st' (by rw [hk.1]; exact hsz)) ?_
          intro ex a'' w'' hp
          cases ex with
          | normal =>
            obtain ⟨hk', e'', h'', hf'', st'', hd''⟩ := hp
            exact ihn a'' w'' e'' h'' hd'' (hk.trans hk') hf'' st''
          | exit id => exact ⟨hk.trans hp.1, hp.2⟩
          | ret => exact ⟨hp.1.trans hk.3, hp.2⟩
          | goto l => exact hp
          | panic ch => exact hp
          | outgrown => exact hp
      exact claim n a w e h hd (Keep.refl _ _) hf st
    · exact hd.elim
  | exit id => exact fun ann e h k ke kr a w hd _ hf st _ => wpIn_exit ⟨Keep.refl _ _, e, h, hf, st, hd⟩
  | ret => exact fun ann e h k ke kr a w hd _ hf st _ => wpIn_ret ⟨rfl, e, h, hf, st, hd⟩
  | _ => intro ann e h k ke kr a w hd; exact hd.elim


end Go.Sx
