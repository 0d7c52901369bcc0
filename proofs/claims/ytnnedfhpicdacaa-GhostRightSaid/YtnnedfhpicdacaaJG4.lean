/-
  SX, part 13: code in a round of a range over a function, and iterators: text's order alone, no guards.
-/
import Derived.RangeFuncIn
import Derived.RangeFuncSeq
import Derived.RangeFuncCalls
import Derived.LoopNIn
import Derived.OrdersIn
import Derived.RangeFuncRecord
import Derived.Test.YtnnedfhpicdacaaRows
import Derived.RangeFuncLeaves
import Derived.Shelf.Lays
import Derived.KernelRfl
import Derived.Shelf.Slices.In.SortNone
import Derived.Shelf.Sort.Plain
import Derived.Test.YtnnedfhpicdacaaJG2
import Derived.Test.YtnnedfhpicdacaaJG3

namespace Go.Sx
open Go

/-- A fence that keeps nothing out. -/
structure Wd (F : Fence) : Prop where
  fn : ∀ f, F.fn f
  depth : F.depth = none
  calls : ∀ {n : Nat} {P : Program} {f : FuncId} {args : Array Value} {w : World} {R : Ending → World → Prop}, Calls P f args w R → CallsIn F n P f args w R
  round : ∀ {n : Nat} {P : Program} {l : Nat} {f : FuncId} {tmps : Array Value} {x y : Code} {w : World} {R : Ending → World → Prop}, RoundIn Fence.wide n P l f tmps x y w R → RoundIn F n P l f tmps x y w R
theorem wd_wide : Wd Fence.wide := ⟨fun _ => trivial, rfl, callsIn_wide.2, fun h => h⟩
theorem wd_round (l : Nat) : Wd (Fence.wide.inRound l) := ⟨fun _ => trivial, rfl, fun h => CallsIn.inRound l (callsIn_wide.2 h), fun h => h⟩

/-- A call of yield: whatever the round does. -/
def xYield (P : Program) (l : Nat) (args : Array Value) (h : PH) (K : Value → PH → Prop) : Prop :=
  ∀ (n : Nat) (W w : World), St W h w → YieldAt Fence.wide n P l args w fun e w' => ∃ v h', e = .returned v ∧ St W h' w' ∧ K v h'

def isDefer : Op → Bool
  | .defer _ => true
  | _ => false
/-- The loop whose round a call runs. -/
def yieldOf (e : Env) (o : Oper) : Option (Nat × Array Value) :=
  match o.op with
  | .call { callee := .value f, args := ar, .. } => (match ev e f with
    | some (.func (.yield l) ⟨[]⟩ ⟨[]⟩) => some (l, ar.map (evD e))
    | _ => none)
  | _ => none
def yOp (P : Program) (o : Oper) (e : Env) (h : PH) (K : Value → PH → Prop) : Prop :=
  match yieldOf e o with
  | some (l, args) => (match known e o with
    | true => xYield P l args h fun v h' => oRes (resOf P o.type) v fun u => K u h'
    | false => False)
  | none => aOp P o e h K

def dOpsI (P : Program) : List Oper → Env → PH → (Env → PH → Prop) → Prop
  | [], e, h, K => K e h
  | o :: r, e, h, K => match o.guard.isNone && !isDefer o.op with
    | true => yOp P o e h fun v h' => dOpsI P r (e.put o.dst v) h' K
    | false => False

theorem aOpIn_sound {F : Fence} (wd : Wd F) {n : Nat} {P : Program} {o : Oper} {e : Env} {h : PH} {K : Value → PH → Prop} (hnd : isDefer o.op = false) (hk : yOp P o e h K) {W : World} {a : Act} {w : World} (f : Fits e a) (st : St W h w) (Q : Exit → Act → World → Prop) :
    o.wpIn F n P a w (fun a' w' => ∃ v h', a' = a.put o.dst v ∧ St W h' w' ∧ K v h') Q := by
  refine ⟨fun f _ => wd.fn f, ?_⟩
  rw [Oper.semAt_eq _ _ _ (fun c hc => by rw [hc] at hnd; cases hnd)]
  have acts : ∀ nx w', (execOp a.eval o).run P w = .ok nx w' → (∃ h', St W h' w' ∧ dNext P K nx h') → o.uponIn F n P a (fun a' w' => ∃ v h', a' = a.put o.dst v ∧ St W h' w' ∧ K v h') Q ((execOp a.eval o).run P w) := by
    intro nx w' hr hd
    obtain ⟨h', st', k⟩ := hd
    rw [hr]
    cases nx <;> first | exact k.elim | skip
    · exact ⟨_, h', rfl, st', k⟩
    · exact ⟨_, h', rfl, st', k⟩
    · rename_i fn args
      refine ⟨fun hd => (by rw [wd.depth] at hd; cases hd), wd.calls ((k W w' st').mono ?_)⟩
      rintro e w'' ⟨v, h'', rfl, st'', k⟩
      exact ⟨v, h'', rfl, st'', k⟩
  unfold yOp at hk
  split at hk
  · rename_i l args hy
    have hn : known e o = true := by
      cases hkn : known e o with
      | true => rfl
      | false => rw [hkn] at hk; exact hk.elim
    rw [hn] at hk
    simp only [] at hk
    obtain ⟨fn, tmps, assign, body, hr, hround⟩ := hk (n - 1) W w st
    have hrun : (execOp a.eval o).run P w = (Instr.yield l args).run P w := by
      rw [known_exec f hn]
      unfold yieldOf at hy
      split at hy
      · rename_i f ar ts ho
        split at hy
        · rename_i l' hf
          simp only [Option.some.injEq, Prod.mk.injEq] at hy
          obtain ⟨rfl, rfl⟩ := hy
          have hev : evD e f = .func (.yield l') #[] #[] := by simp [evD, hf]
          unfold execOp
          rw [ho]
          simp only [resolve, hev]
          simp [go_sem, invoke]
        · cases hy
      · cases hy
    rw [hrun, hr]
    refine ⟨fun hd => (by rw [wd.depth] at hd; cases hd), wd.round (hround.mono ?_)⟩
    rintro e w' ⟨v, h', rfl, st', k⟩
    exact ⟨v, h', rfl, st', oRes_same (K := fun u => K u h') k⟩
  · unfold aOp at hk
    split at hk
    · obtain ⟨v, k, hr⟩ := fOp_sound hk
      exact acts _ _ (hr W a w f st) ⟨h, st, k⟩
    · unfold gOp at hk
      split at hk
      · rename_i hn
        obtain ⟨nx, w', h', hr, st', k⟩ := gRaw_sound hk W w st
        rw [← known_exec f hn] at hr
        exact acts _ _ hr ⟨h', st', k⟩
      · exact hk.elim

theorem dOpsI_sound {F : Fence} (wd : Wd F) {dp : Nat} {P : Program} {W : World} {ops : Array Oper} {m : Nat} {Q : Exit → Act → World → Prop} (hm : InB ops m) : ∀ (l : List Oper) (i : Nat) (e : Env) (h : PH) (k : Env → PH → Prop) (a0 a : Act) (w : World),
    dOpsI P l e h k → Fits e a → St W h w → m ≤ a.tmps.size → (∀ j, ops[i + j]? = l[j]?) → Keep (ops.toList.filterMap (·.dst)) a0 a → (∀ o ∈ l, ∀ t, o.dst = some t → t ∈ ops.toList.filterMap (·.dst)) →
    (∀ a' w' e' h', Keep (ops.toList.filterMap (·.dst)) a0 a' → Fits e' a' → St W h' w' → k e' h' → Q .normal a' w') → wpOpsIn F dp P ops Q (List.range' i l.length) a w := by
  intro l
  induction l with
  | nil => exact fun i e h k a0 a w hd hf st hsz hops hk _ fin => fin a w e h hk hf st hd
  | cons o r ih =>
    intro i e h k a0 a w hd hf st hsz hops hk hdst fin
    unfold dOpsI at hd
    have hg : (o.guard.isNone && !isDefer o.op) = true := by
      cases hkn : (o.guard.isNone && !isDefer o.op) with
      | true => rfl
      | false => rw [hkn] at hd; exact hd.elim
    rw [hg] at hd
    simp only [] at hd
    simp only [Bool.and_eq_true, Bool.not_eq_true'] at hg
    have hi : ops[i]? = some o := by have := hops 0; simpa using this
    rw [List.length_cons, List.range'_succ, wpOpsIn_cons]
    unfold wpOpIn
    rw [hi]
    simp only []
    have hgn : o.guard = none := by simpa using hg.1
    rw [if_pos (by unfold Region.wanted; rw [hgn])]
    refine Oper.wpIn_mono ?_ (aOpIn_sound wd hg.2 hd hf st Q)
    rintro a' w' ⟨v, h', rfl, st', hd'⟩
    have hdl : ∀ t, o.dst = some t → t < a.tmps.size := fun t ht => Nat.lt_of_lt_of_le (hm i o t hi ht) hsz
    refine ih (i + 1) _ h' k a0 _ w' hd' (hf.put o.dst v hdl) st' ?_ ?_ ?_ (fun o' ho' => hdst o' (List.mem_cons_of_mem _ ho')) fin
    · cases o.dst <;> simpa [Act.put] using hsz
    · intro j
      have := hops (j + 1)
      rw [show i + 1 + j = i + (j + 1) from by omega, this]; simp
    · exact hk.trans (Keep.put _ _ _ _ (hdst o (List.mem_cons_self ..)))

def dCodeI (P : Program) : Code → Ann → Env → PH → (Env → PH → Prop) → (Nat → Env → PH → Prop) → (Env → PH → Prop) → Prop
  | .skip, _, e, h, k, _, _ => k e h
  | .region _ ops draw, _, e, h, k, _, _ =>
    match draw with
    | false => dOpsI P ops.toList e h k
    | true => False
  | .seq x y, ann, e, h, k, ke, kr =>
    match ann with
    | .seq ax ay => dCodeI P x ax e h (fun e' h' => dCodeI P y ay e' h' k ke kr) ke kr
    | _ => False
  | .cond c x y, ann, e, h, k, ke, kr =>
    match ann, ev e c with
    | .cond sl ax ay, some (.bool b) => xIte b (fun J => dCodeI P x ax e h (appF sl J) ke kr) (fun J => dCodeI P y ay e h (appF sl J) ke kr) (absF sl fun es h' => k (es ++ e.drop (writes x ++ writes y)) h')
    | _, _ => False
  | .block id c, ann, e, h, k, ke, kr =>
    match ann with
    | .block sl a => xBlk (fun J => dCodeI P c a e h (appF sl J) (fun id' => match Nat.beq id' id with | true => appF sl J | false => ke id') kr) (absF sl fun es h' => k (es ++ e.drop (writes c)) h')
    | _ => False
  | .loop c, ann, e, h, _, ke, kr =>
    match ann with
    | .loop sl a => ∃ n, appF sl (xLoopN (botF sl) (fun J => absF sl fun es h' => dCodeI P c a (es ++ e.drop (writes c)) h' (appF sl J) ke kr) n) e h
    | _ => False
  | .exit id, _, e, h, _, ke, _ => ke id e h
  | .ret, _, e, h, _, _, kr => kr e h
  | _, _, _, _, _, _, _ => False


theorem dCodeI_sound {P : Program} {F : Fence} (wd : Wd F) {dp : Nat} {W : World} {m : Nat} : ∀ (c : Code) (ann : Ann) (e : Env) (h : PH) (k : Env → PH → Prop) (ke : Nat → Env → PH → Prop) (kr : Env → PH → Prop) (a : Act) (w : World),
    dCodeI P c ann e h k ke kr → codeIn m c = true → Fits e a → St W h w → m ≤ a.tmps.size → c.wpIn F dp P (Post W (writes c) a k ke kr) a w := by
  intro c
  induction c with
  | skip => exact fun ann e h k ke kr a w hd _ hf st _ => wpIn_skip ⟨Keep.refl _ _, e, h, hf, st, hd⟩
  | region id ops draw =>
    intro ann e h k ke kr a w hd hin hf st hsz
    have hm : InB ops m := by
      intro i o t ho ht
      have := List.all_eq_true.1 hin t (List.mem_filterMap.2 ⟨o, by rw [Array.mem_toList_iff]; exact Array.mem_of_getElem? ho, ht⟩)
      exact Nat.le_of_ble_eq_true this
    cases draw with
    | false =>
      refine wpIn_region ?_
      have := dOpsI_sound wd (dp := dp) (W := W) (Q := Post W (writes (.region id ops false)) a k ke kr) hm ops.toList 0 e h k a a w hd hf st hsz (fun i => by simp) (Keep.refl _ _) (fun o ho t ht => List.mem_filterMap.2 ⟨o, ho, ht⟩) (fun a' w' e' h' hk' hf' st' hK => ⟨hk', e', h', hf', st', hK⟩)
      rw [List.range_eq_range']
      simpa using this
    | true => exact hd.elim
  | seq x y ihx ihy =>
    intro ann e h k ke kr a w hd hin hf st hsz
    unfold dCodeI at hd
    split at hd
    · rename_i ax ay
      have hx : codeIn m x = true := codeIn_sub hin fun t ht => List.mem_append_left _ ht
      have hy : codeIn m y = true := codeIn_sub hin fun t ht => List.mem_append_right _ ht
      refine wpIn_seq (wpIn_mono (ihx ax e h _ ke kr a w hd hx hf st hsz) ?_)
      intro ex a' w' hp
      cases ex with
      | normal =>
        obtain ⟨hk, e', h', hf', st', hd'⟩ := hp
        refine wpIn_mono (ihy ay e' h' k ke kr a' w' hd' hy hf' st' (by rw [hk.1]; exact hsz)) ?_
        intro ex a'' w'' hp
        have up : ∀ b, Keep (writes y) a' b → Keep (writes (.seq x y)) a b := fun b hb => (hk.mono fun t ht => List.mem_append_left _ ht).trans (hb.mono fun t ht => List.mem_append_right _ ht)
        cases ex with
        | normal => exact ⟨up _ hp.1, hp.2⟩
        | exit id => exact ⟨up _ hp.1, hp.2⟩
        | ret => exact ⟨hp.1.trans hk.3, hp.2⟩
        | goto l => exact hp
        | panic ch => exact hp
        | outgrown => exact hp
      | exit id => exact ⟨hp.1.mono fun t ht => List.mem_append_left _ ht, hp.2⟩
      | ret => exact hp
      | goto l => exact hp
      | panic ch => exact hp
      | outgrown => exact hp
    · exact hd.elim
  | cond c x y ihx ihy =>
    intro ann e h k ke kr a w hd hin hf st hsz
    unfold dCodeI at hd
    split at hd
    · rename_i sl ax ay b hb
      have hx : codeIn m x = true := codeIn_sub hin fun t ht => List.mem_append_left _ ht
      have hy : codeIn m y = true := codeIn_sub hin fun t ht => List.mem_append_right _ ht
      refine wpIn_cond_split (hf.ev hb) ?_ ?_
      · intro ht
        refine wpIn_mono (ihx ax e h _ ke kr a w (hd.1 ht) hx hf st hsz) ?_
        intro ex a' w' hp
        cases ex with
        | normal =>
          obtain ⟨hk, e', h', hf', st', hd'⟩ := hp
          obtain ⟨es, h1, h2⟩ := app_abs hd'
          have hk' : Keep (writes x ++ writes y) a a' := hk.mono fun t ht => List.mem_append_left _ ht
          exact ⟨hk', _, h', fits_join hf hf' hk' h1, st', h2⟩
        | exit id => exact ⟨hp.1.mono fun t ht => List.mem_append_left _ ht, hp.2⟩
        | ret => exact hp
        | goto l => exact hp
        | panic ch => exact hp
        | outgrown => exact hp
      · intro ht
        refine wpIn_mono (ihy ay e h _ ke kr a w (hd.2 ht) hy hf st hsz) ?_
        intro ex a' w' hp
        cases ex with
        | normal =>
          obtain ⟨hk, e', h', hf', st', hd'⟩ := hp
          obtain ⟨es, h1, h2⟩ := app_abs hd'
          have hk' : Keep (writes x ++ writes y) a a' := hk.mono fun t ht => List.mem_append_right _ ht
          exact ⟨hk', _, h', fits_join hf hf' hk' h1, st', h2⟩
        | exit id => exact ⟨hp.1.mono fun t ht => List.mem_append_right _ ht, hp.2⟩
        | ret => exact hp
        | goto l => exact hp
        | panic ch => exact hp
        | outgrown => exact hp
    · exact hd.elim
  | block id c ih =>
    intro ann e h k ke kr a w hd hin hf st hsz
    unfold dCodeI at hd
    split at hd
    · rename_i sl ax
      refine wpIn_block (wpIn_mono (ih ax e h _ _ kr a w hd hin hf st hsz) ?_)
      have fin : ∀ a' w' e' h', Keep (writes c) a a' → Fits e' a' → St W h' w' → appF sl (absF sl fun es h' => k (es ++ e.drop (writes c)) h') e' h' → Post W (writes (.block id c)) a k ke kr .normal a' w' := by
        intro a' w' e' h' hk hf' st' hd'
        obtain ⟨es, h1, h2⟩ := app_abs hd'
        exact ⟨hk, _, h', fits_join hf hf' hk h1, st', h2⟩
      intro ex a' w' hp
      cases ex with
      | normal =>
        obtain ⟨hk, e', h', hf', st', hd'⟩ := hp
        exact fin a' w' e' h' hk hf' st' hd'
      | exit id' =>
        obtain ⟨hk, e', h', hf', st', hd'⟩ := hp
        show if id' = id then _ else _
        cases hb : Nat.beq id' id with
        | true =>
          rw [hb] at hd'
          rw [if_pos (Nat.eq_of_beq_eq_true hb)]
          exact fin a' w' e' h' hk hf' st' hd'
        | false =>
          rw [hb] at hd'
          rw [if_neg (fun e => by subst e; simp at hb)]
          exact ⟨hk, e', h', hf', st', hd'⟩
      | ret => exact hp
      | goto l => exact hp
      | panic ch => exact hp
      | outgrown => exact hp
    · exact hd.elim
  | loop c ih =>
    intro ann e h k ke kr a w hd hin hf st hsz
    unfold dCodeI at hd
    split at hd
    · rename_i sl ax
      obtain ⟨n, hd⟩ := hd
      refine wpIn_loop_rounds n ?_
      have claim : ∀ n a' w' e' h', appF sl (xLoopN (botF sl) (fun J => absF sl fun es h' => dCodeI P c ax (es ++ e.drop (writes c)) h' (appF sl J) ke kr) n) e' h' → Keep (writes c) a a' → Fits e' a' → St W h' w' → Code.roundsIn F dp P c (Post W (writes (.loop c)) a k ke kr) n a' w' := by
        intro n
        induction n with
        | zero =>
          intro a' w' e' h' hd' _ _ _
          obtain ⟨es, _, h2⟩ := app_abs (F := fun _ _ => False) hd'
          exact h2
        | succ n ihn =>
          intro a' w' e' h' hd' hk hf' st'
          obtain ⟨es, h1, h2⟩ := app_abs (F := fun es h' => dCodeI P c ax (es ++ e.drop (writes c)) h' (appF sl (xLoopN (botF sl) _ n)) ke kr) hd'
          rw [roundsIn_succ]
          refine wpIn_mono (ih ax _ h' _ ke kr a' w' h2 hin (fits_join hf hf' hk h1) st' (by rw [hk.1]; exact hsz)) ?_
          intro ex a'' w'' hp
          cases ex with
          | normal =>
            obtain ⟨hk', e'', h'', hf'', st'', hd''⟩ := hp
            exact ihn a'' w'' e'' h'' hd'' (hk.trans hk') hf'' st''
          | exit id => exact ⟨hk.trans hp.1, hp.2⟩
          | ret => exact ⟨hp.1.trans hk.3, hp.2⟩
          | goto l => exact hp
          | panic ch => exact hp
          | outgrown => exact hp
      exact claim n a w e h hd (Keep.refl _ _) hf st
    · exact hd.elim
  | exit id => exact fun ann e h k ke kr a w hd _ hf st _ => wpIn_exit ⟨Keep.refl _ _, e, h, hf, st, hd⟩
  | ret => exact fun ann e h k ke kr a w hd _ hf st _ => wpIn_ret ⟨rfl, e, h, hf, st, hd⟩
  | _ => intro ann e h k ke kr a w hd; exact hd.elim


end Go.Sx

/-
  SX, part 14: a round of a range over a function, out of its record; an iterator's contract.
-/
namespace Go.Sx
open Go

/-- A round: the record is ready, its assignment and its body are read, and it is ready again. -/
theorem yield_of {P : Program} {l : Nat} {r : Loop} {h : PH} {args : Array Value} {e0 : Env} {annA annB : Ann} {K : Value → PH → Prop} {m : Nat} (hl : h l = some (.loop r)) (hs : r.state = .ready) (ha : args.size = r.params.size)
    (hf : Fits e0 { tmps := (r.params.zip args).foldl (fun tmps (t, a) => tmps.setIfInBounds t a) r.tmps, defers := [] }) (hm : m ≤ ((r.params.zip args).foldl (fun tmps (t, a) => tmps.setIfInBounds t a) r.tmps).size)
    (hinA : codeIn m r.assign = true) (hinB : codeIn m r.body = true)
    (hd : dCodeI P r.assign annA e0 h (fun e1 h1 => h1 l = some (.loop r) ∧ dCodeI P r.body annB e1 (h1.upd l (.loop { r with state := .busy })) (fun _ h2 => h2 l = some (.loop { r with state := .busy }) ∧ K (.bool true) (h2.upd l (.loop { r with state := .ready, pending := none }))) (fun _ _ _ => False) (fun _ _ => False)) (fun _ _ _ => False) (fun _ _ => False)) :
    xYield P l args h K := by
  intro n W w st
  refine ⟨r.fn, _, r.assign, r.body, run_yield (st.sh _ _ hl) ha, ?_⟩
  refine roundIn_of_wpIn trivial ?_
  refine wpIn_mono (dCodeI_sound (wd_round l) r.assign annA e0 h _ _ _ _ w hd hinA hf st hm) ?_
  intro ex a1 w1 hp
  cases ex with
  | normal =>
    obtain ⟨hk, e1, h1, f1, s1, hl1, hb⟩ := hp
    have hw1 := s1.sh _ _ hl1
    have hlt : l < w1.heap.size := (Array.getElem?_eq_some_iff.1 hw1).1
    refine ⟨_, run_beginRound hw1 hs, ?_⟩
    have s2 : St W (h1.upd l (.loop { r with state := .busy })) (w1.putObj l (.loop { r with state := .busy })) := s1.setObj l _ hlt
    refine wpIn_mono (dCodeI_sound (wd_round l) r.body annB e1 _ _ _ _ a1 _ hb hinB f1 s2 (by rw [hk.1]; exact hm)) ?_
    intro ex a2 w2 hp
    cases ex with
    | normal =>
      obtain ⟨_, e2, h2, _, s3, hl2, hK⟩ := hp
      have hw2 := s3.sh _ _ hl2
      have hlt2 : l < w2.heap.size := (Array.getElem?_eq_some_iff.1 hw2).1
      refine ⟨_, _, run_endRound none hw2, _, _, rfl, s3.setObj l _ hlt2, hK⟩
    | exit id => exact (hp.2.elim fun _ ⟨_, _, _, hx⟩ => hx).elim
    | ret => exact (hp.2.elim fun _ ⟨_, _, _, hx⟩ => hx).elim
    | goto t => exact (show False from hp).elim
    | panic c => exact (show False from hp).elim
    | outgrown => exact (show False from hp).elim
  | exit id => exact (hp.2.elim fun _ ⟨_, _, _, hx⟩ => hx).elim
  | ret => exact (hp.2.elim fun _ ⟨_, _, _, hx⟩ => hx).elim
  | goto t => exact (show False from hp).elim
  | panic c => exact (show False from hp).elim
  | outgrown => exact (show False from hp).elim

/-- A function's reading, in text's order, with calls of yield. -/
def dFnI (P : Program) (fn : Func) (ann : Ann) (args : Array Value) (h : PH) (Q : Value → PH → Prop) : Prop :=
  match fn.body with
  | some c => dCodeI P c ann (argEnv args.toList 0) h (fun e h' => dRets P fn.results.toList e h' fun vs => Q (retVal vs) h') (fun _ _ _ => False) (fun e h' => dRets P fn.results.toList e h' fun vs => Q (retVal vs) h')
  | none => False

theorem specI_of {P : Program} {f : FuncId} {fn : Func} {ann : Ann} {args : Array Value} {h : PH} {Q : Value → PH → Prop} (hf : P.funcs[f]? = some fn) (hok : fnOk fn args.size = true)
    (hd : dFnI P fn ann args h Q) : Meets P f args h Q := by
  intro W w st
  unfold dFnI at hd
  unfold fnOk at hok
  cases hb : fn.body with
  | none => rw [hb] at hd; exact hd.elim
  | some c =>
    rw [hb] at hd hok
    simp only [Bool.and_eq_true] at hok
    obtain ⟨hin, hle⟩ := hok
    have hle := Nat.le_of_ble_eq_true hle
    refine calls_of_wp hf hb ?_
    have hsz : (args ++ Array.replicate (fn.ntmps - args.size) undef).size = fn.ntmps := by simp; omega
    have hfit : Fits (argEnv args.toList 0) { tmps := args ++ Array.replicate (fn.ntmps - args.size) undef, defers := [] } := by
      refine ⟨fun t v hg => ?_⟩
      obtain ⟨_, hv⟩ := argEnv_get _ _ _ _ hg
      simp only [Nat.sub_zero] at hv
      have hv' : args[t]? = some v := by simpa using hv
      have hlt : t < args.size := (Array.getElem?_eq_some_iff.1 hv').1
      simp only [Array.getElem?_append, hlt, if_true]
      exact hv'
    refine wp_mono (wpIn_wide (n := 0) |>.1 <| dCodeI_sound wd_wide c ann _ h _ _ _ _ w hd hin hfit st (by rw [hsz]; exact Nat.le_refl _)) ?_
    have fin : ∀ (a : Act) (w' : World) (e : Env) (h' : PH), a.defers = [] → Fits e a → St W h' w' → dRets P fn.results.toList e h' (fun vs => Q (retVal vs) h') →
        a.defers = [] ∧ ∃ v, (results fn a.tmps).run P w' = .ok v w' ∧ ∃ v_1 h'', Ending.returned v = .returned v_1 ∧ St W h'' w' ∧ Q v_1 h'' := by
      intro a w' e h' hdf hf' st' hr
      obtain ⟨vs, hQ, hrun⟩ := dRets_sound hf' st' _ _ hr
      refine ⟨hdf, retVal vs, ?_, retVal vs, h', rfl, st', hQ⟩
      rw [results_eq]
      have hl : fn.results = fn.results.toList.toArray := by simp
      rw [hl, List.mapM_toArray, Sem.run_bind, Sem.run_map, hrun]
      simp only [Result.andThen_ok]
      unfold retVal
      cases vs with
      | nil => rfl
      | cons v r =>
        cases r with
        | nil => rfl
        | cons u r =>
          simp only [List.size_toArray, List.length_cons]
          rw [dif_neg (by omega)]
          rfl
    intro ex a w' hp
    cases ex with
    | normal => obtain ⟨hk, e, h', hf', st', hr⟩ := hp; exact fin a w' e h' hk.3 hf' st' hr
    | ret => obtain ⟨hk, e, h', hf', st', hr⟩ := hp; exact fin a w' e h' hk hf' st' hr
    | exit id => exact hp.2.elim fun _ ⟨_, _, _, hx⟩ => hx
    | goto l => exact (show False from hp).elim
    | panic ch => exact (show False from hp).elim
    | outgrown => exact (show False from hp).elim

end Go.Sx

/- The readings of some functions, printed by a program of the session (wip/tools/sx.py): each by one equation that the kernel reckons. -/
set_option linter.unusedVariables false
namespace Go.Proofs.Ytnnedfhpicdacaa
open Go Go.Sx Go.Proofs
/-- maps.Keys[map[futtock/model.place]int,futtock/model.place,int]$1 -/
def A_maps_Keys_map_model_place_int_model_place_int_1 : Ann := .seq (.leaf) (.block [] (.loop [] (.seq (.leaf) (.seq (.cond [] (.leaf) (.leaf)) (.block [] (.seq (.leaf) (.seq (.leaf) (.cond [] (.leaf) (.leaf)))))))))
def P_maps_Keys_map_model_place_int_model_place_int_1 (y0 : Nat) (c0 : Nat) (h : PH) (Q : Value → PH → Prop) : Prop :=
 oM (h.cell (⟨c0, 0, none⟩ : Addr)) fun x4 =>
 xRange h x4 fun b5 h_1 =>
 xBlk (fun J_1 =>
 ∃ n, xLoopN (fun _ => False) (fun J_2 =>
 (fun  (h_2 : PH) =>
 xNext h_2 b5 (fun h_3 =>
 oB (some (.bool false)) fun x7 =>
 xIte x7 (fun J_3 =>
 J_3 h_3)
 (fun J_3 =>
 J_1 h_3)
 (fun  (h_5 : PH) =>
 xBlk (fun J_4 =>
 xEntry h_5 b5 fun x8k x8u =>
 oAgg x8k 2 fun x9cs =>
 oI .i64 x9cs[0]? fun x9_0 =>
 oI .i64 x9cs[1]? fun x9_1 =>
 xNew h_5 (.cells #[(.int .i64 0), (.int .i64 0)] 122 (0, 0)) fun b3 h_6 =>
 xSt 2 h_6 (⟨b3, 0, none⟩ : Addr) [(.int .i64 x9_0), (.int .i64 x9_1)] fun h_7 =>
 oI .i64 (h_7.cell ((⟨b3, 0, none⟩ : Addr).add 0)) fun x11_0 =>
 oI .i64 (h_7.cell ((⟨b3, 0, none⟩ : Addr).add 1)) fun x11_1 =>
 xYield Try.prog y0 #[(.agg #[(.int .i64 x11_0), (.int .i64 x11_1)])] h_7 fun v12 h_8 =>
 oB (some v12) fun x12 =>
 xIte (!x12) (fun J_5 =>
 Q (.tuple #[]) h_8)
 (fun J_5 =>
 J_5 h_8)
 (fun  (h_9 : PH) =>
 J_4 h_9))
 (fun  (h_10 : PH) =>
 J_2 h_10)))
 (fun x6k x6u h_4 =>
 oB (some (.bool true)) fun x7_1 =>
 xIte x7_1 (fun J_6 =>
 J_6 h_4)
 (fun J_6 =>
 J_1 h_4)
 (fun  (h_11 : PH) =>
 xBlk (fun J_7 =>
 xEntry h_11 b5 fun x8k_1 x8u_1 =>
 oAgg x8k_1 2 fun x9cs_1 =>
 oI .i64 x9cs_1[0]? fun x9_0_1 =>
 oI .i64 x9cs_1[1]? fun x9_1_1 =>
 xNew h_11 (.cells #[(.int .i64 0), (.int .i64 0)] 122 (0, 0)) fun b3_1 h_12 =>
 xSt 2 h_12 (⟨b3_1, 0, none⟩ : Addr) [(.int .i64 x9_0_1), (.int .i64 x9_1_1)] fun h_13 =>
 oI .i64 (h_13.cell ((⟨b3_1, 0, none⟩ : Addr).add 0)) fun x11_0_1 =>
 oI .i64 (h_13.cell ((⟨b3_1, 0, none⟩ : Addr).add 1)) fun x11_1_1 =>
 xYield Try.prog y0 #[(.agg #[(.int .i64 x11_0_1), (.int .i64 x11_1_1)])] h_13 fun v12_1 h_14 =>
 oB (some v12_1) fun x12_1 =>
 xIte (!x12_1) (fun J_8 =>
 Q (.tuple #[]) h_14)
 (fun J_8 =>
 J_8 h_14)
 (fun  (h_15 : PH) =>
 J_7 h_15))
 (fun  (h_16 : PH) =>
 J_2 h_16))))) n h_1)
 (fun  (h_17 : PH) =>
 Q (.tuple #[]) h_17)
theorem P_maps_Keys_map_model_place_int_model_place_int_1_eq (y0 : Nat) (c0 : Nat) (h : PH) (Q : Value → PH → Prop) : dFnI Try.prog Try.f105 A_maps_Keys_map_model_place_int_model_place_int_1 #[(.func (.yield y0) #[] #[]), (.pointer (some (⟨c0, 0, none⟩ : Addr)))] h Q = P_maps_Keys_map_model_place_int_model_place_int_1 y0 c0 h Q := by kernel_rfl
theorem P_maps_Keys_map_model_place_int_model_place_int_1_of {y0 : Nat} {c0 : Nat} {h : PH} {Q : Value → PH → Prop} (x : P_maps_Keys_map_model_place_int_model_place_int_1 y0 c0 h Q) : Meets Try.prog 105 #[(.func (.yield y0) #[] #[]), (.pointer (some (⟨c0, 0, none⟩ : Addr)))] h Q :=
  specI_of Try.func105 (by kernel_rfl) ((P_maps_Keys_map_model_place_int_model_place_int_1_eq y0 c0 h Q).symm ▸ x)
/-- maps.Keys[map[futtock/model.place]futtock/model.left,futtock/model.place,futtock/model.left]$1 -/
def A_maps_Keys_map_model_place_model_left_model_place_model_left_1 : Ann := .seq (.leaf) (.block [] (.loop [] (.seq (.leaf) (.seq (.cond [] (.leaf) (.leaf)) (.block [] (.seq (.leaf) (.seq (.leaf) (.cond [] (.leaf) (.leaf)))))))))
def P_maps_Keys_map_model_place_model_left_model_place_model_left_1 (y0 : Nat) (c0 : Nat) (h : PH) (Q : Value → PH → Prop) : Prop :=
 oM (h.cell (⟨c0, 0, none⟩ : Addr)) fun x4 =>
 xRange h x4 fun b5 h_1 =>
 xBlk (fun J_1 =>
 ∃ n, xLoopN (fun _ => False) (fun J_2 =>
 (fun  (h_2 : PH) =>
 xNext h_2 b5 (fun h_3 =>
 oB (some (.bool false)) fun x7 =>
 xIte x7 (fun J_3 =>
 J_3 h_3)
 (fun J_3 =>
 J_1 h_3)
 (fun  (h_5 : PH) =>
 xBlk (fun J_4 =>
 xEntry h_5 b5 fun x8k x8u =>
 oAgg x8k 2 fun x9cs =>
 oI .i64 x9cs[0]? fun x9_0 =>
 oI .i64 x9cs[1]? fun x9_1 =>
 xNew h_5 (.cells #[(.int .i64 0), (.int .i64 0)] 122 (0, 0)) fun b3 h_6 =>
 xSt 2 h_6 (⟨b3, 0, none⟩ : Addr) [(.int .i64 x9_0), (.int .i64 x9_1)] fun h_7 =>
 oI .i64 (h_7.cell ((⟨b3, 0, none⟩ : Addr).add 0)) fun x11_0 =>
 oI .i64 (h_7.cell ((⟨b3, 0, none⟩ : Addr).add 1)) fun x11_1 =>
 xYield Try.prog y0 #[(.agg #[(.int .i64 x11_0), (.int .i64 x11_1)])] h_7 fun v12 h_8 =>
 oB (some v12) fun x12 =>
 xIte (!x12) (fun J_5 =>
 Q (.tuple #[]) h_8)
 (fun J_5 =>
 J_5 h_8)
 (fun  (h_9 : PH) =>
 J_4 h_9))
 (fun  (h_10 : PH) =>
 J_2 h_10)))
 (fun x6k x6u h_4 =>
 oB (some (.bool true)) fun x7_1 =>
 xIte x7_1 (fun J_6 =>
 J_6 h_4)
 (fun J_6 =>
 J_1 h_4)
 (fun  (h_11 : PH) =>
 xBlk (fun J_7 =>
 xEntry h_11 b5 fun x8k_1 x8u_1 =>
 oAgg x8k_1 2 fun x9cs_1 =>
 oI .i64 x9cs_1[0]? fun x9_0_1 =>
 oI .i64 x9cs_1[1]? fun x9_1_1 =>
 xNew h_11 (.cells #[(.int .i64 0), (.int .i64 0)] 122 (0, 0)) fun b3_1 h_12 =>
 xSt 2 h_12 (⟨b3_1, 0, none⟩ : Addr) [(.int .i64 x9_0_1), (.int .i64 x9_1_1)] fun h_13 =>
 oI .i64 (h_13.cell ((⟨b3_1, 0, none⟩ : Addr).add 0)) fun x11_0_1 =>
 oI .i64 (h_13.cell ((⟨b3_1, 0, none⟩ : Addr).add 1)) fun x11_1_1 =>
 xYield Try.prog y0 #[(.agg #[(.int .i64 x11_0_1), (.int .i64 x11_1_1)])] h_13 fun v12_1 h_14 =>
 oB (some v12_1) fun x12_1 =>
 xIte (!x12_1) (fun J_8 =>
 Q (.tuple #[]) h_14)
 (fun J_8 =>
 J_8 h_14)
 (fun  (h_15 : PH) =>
 J_7 h_15))
 (fun  (h_16 : PH) =>
 J_2 h_16))))) n h_1)
 (fun  (h_17 : PH) =>
 Q (.tuple #[]) h_17)
theorem P_maps_Keys_map_model_place_model_left_model_place_model_left_1_eq (y0 : Nat) (c0 : Nat) (h : PH) (Q : Value → PH → Prop) : dFnI Try.prog Try.f108 A_maps_Keys_map_model_place_model_left_model_place_model_left_1 #[(.func (.yield y0) #[] #[]), (.pointer (some (⟨c0, 0, none⟩ : Addr)))] h Q = P_maps_Keys_map_model_place_model_left_model_place_model_left_1 y0 c0 h Q := by kernel_rfl
theorem P_maps_Keys_map_model_place_model_left_model_place_model_left_1_of {y0 : Nat} {c0 : Nat} {h : PH} {Q : Value → PH → Prop} (x : P_maps_Keys_map_model_place_model_left_model_place_model_left_1 y0 c0 h Q) : Meets Try.prog 108 #[(.func (.yield y0) #[] #[]), (.pointer (some (⟨c0, 0, none⟩ : Addr)))] h Q :=
  specI_of Try.func108 (by kernel_rfl) ((P_maps_Keys_map_model_place_model_left_model_place_model_left_1_eq y0 c0 h Q).symm ▸ x)
end Go.Proofs.Ytnnedfhpicdacaa

/-
  An iterator over a map's keys: each key comes once.
-/
set_option linter.unusedSimpArgs false
set_option linter.unusedVariables false
namespace Go.Md
open Go Go.Sx Go.Proofs Go.Proofs.Ytnnedfhpicdacaa

/-- What the one who ranges keeps between rounds: of the entries that came, in blocks of its own. -/
structure Kept (I : List MapEntry → List Nat → PH → Prop) : Prop where
  stays : ∀ v S h h', I v S h → (∀ b ∈ S, h' b = h b) → I v S h'
  known : ∀ v S h, I v S h → ∀ b ∈ S, h b ≠ none

theorem meets_keys_waits {I : List MapEntry → List Nat → PH → Prop} (kI : Kept I) {h : PH} {a c0 l : Nat} {es : Array MapEntry} {cl : Nat} {S0 : List Nat} (ea : h a = some (.map es cl)) (ec : h c0 = some (.cells #[.map (some a)] 42 (0, 0))) (st : Stamps es.toList cl) (ks : ∀ e ∈ es.toList, isKey2 (MapEntry.key e))
    (ha : a ∉ S0) (h0 : I [] S0 h)
    (hY : ∀ v S h1 e, I v S h1 → e ∈ es.toList → (v ++ [e]).Nodup → (∀ x ∈ v ++ [e], x ∈ es.toList) → xYield Try.prog l #[MapEntry.key e] h1 fun r h2 => r = .bool true ∧ ∃ S', I (v ++ [e]) S' h2 ∧ Ext S h1 h2 ∧ ∀ b ∈ S', b ∈ S ∨ h1 b = none) :
    Meets Try.prog 105 #[.func (.yield l) #[] #[], .pointer (some ⟨c0, 0, none⟩)] h fun r h' => r = .tuple #[] ∧ ∃ v S, I v S h' ∧ (∀ e, e ∈ es.toList ↔ e ∈ v) ∧ v.Nodup ∧ Ext S0 h h' ∧ ∀ b ∈ S, b ∈ S0 ∨ h b = none := by
  apply P_maps_Keys_map_model_place_int_model_place_int_1_of
  unfold P_maps_Keys_map_model_place_int_model_place_int_1
  simp only [xNn_some, add_mk, cell_mk, upd_at, del_at, if_true, if_false, Option.bind_some, List.getElem?_toArray, List.getElem?_cons_succ, List.getElem?_cons_zero, oI_some, oS_some, oM_some, oB_some, oP_some, oT_some, xIdx_some, Nat.zero_add, Nat.add_zero, Nat.mul_one, ec]
  refine ⟨a, es, cl, rfl, ea, fun bi nbi => ?_⟩
  have aS0 : a ≠ bi := ne_of_known ea nbi
  have bS0 : bi ∉ S0 := fun hm => kI.known _ _ _ h0 _ hm nbi
  refine xLoop0 (fun h' => ∃ v S, ∃ seen : Array Nat, I v S h' ∧ h' bi = some (.mapIter (some a) cl seen cl) ∧ h' a = some (.map es cl) ∧ bi ∉ S ∧ a ∉ S ∧ v.Nodup ∧ (∀ e ∈ v, e ∈ es.toList) ∧ (∀ e ∈ es.toList, seen.contains e.born = true ↔ e ∈ v) ∧ Ext S0 h h' ∧ ∀ b ∈ S, b ∈ S0 ∨ h b = none)
    (fun h' => match h' bi with | some (.mapIter _ _ seen _) => leftOf es.toList seen | _ => 0) ?_ ⟨[], S0, #[], kI.stays _ _ _ _ h0 (fun b hb => PH.upd_ne _ _ (fun e => bS0 (e ▸ hb))), PH.upd_same _ _ _, (PH.upd_ne _ _ aS0).trans ea, bS0, ha, List.nodup_nil, by simp, by simp, (Ext.refl S0 h).upd_new nbi, fun b hb => .inl hb⟩
  rintro J h1 ⟨v, S, seen, hI, ei, e1, bS, aS, nd, sub, iff, xt, nw0⟩ hJ
  refine ⟨a, cl, seen, cl, es, cl, ei, e1, fun _ hne => st.all hne, fun hov => ?_, fun e he hs => ?_⟩
  · refine ⟨fun hx => (by cases hx), fun _ => ?_⟩
    refine ⟨by trivial, v, S, hI, fun e => ⟨fun he => ?_, sub e⟩, nd, xt, nw0⟩
    exact (iff e he).1 (hov e (by simpa using he) (st.lt e he))
  · refine ⟨fun _ => ?_, fun hx => (by cases hx)⟩
    have he' : e ∈ es.toList := by simpa using he
    obtain ⟨p, q, hk⟩ := ks e he'
    have less := left_push he' hs
    have ei2 := PH.upd_same h1 bi (.mapIter (some a) cl (seen.push e.born) cl)
    have e2 := (PH.upd_ne h1 (.mapIter (some a) cl (seen.push e.born) cl) aS0).trans e1
    have I2 := kI.stays _ _ _ (h1.upd bi (.mapIter (some a) cl (seen.push e.born) cl)) hI (fun b hb => PH.upd_ne _ _ (fun e => bS (e ▸ hb)))
    have xt2 := xt.upd_new (O := .mapIter (some a) cl (seen.push e.born) cl) nbi
    generalize h1.upd bi (.mapIter (some a) cl (seen.push e.born) cl) = h2 at ei2 e2 I2 xt2 ⊢
    refine ⟨a, cl, seen.push e.born, cl, es, e, e.born, ei2, back_push _ _, e2, ?_, ?_⟩
    · have := st.find he'
      simpa using this
    rw [hk]
    simp only [key2, oAgg_mk, xNn_some, add_mk, cell_mk, upd_at, del_at, if_true, if_false, Option.bind_some, List.getElem?_toArray, List.getElem?_cons_succ, List.getElem?_cons_zero, oI_some, oS_some, oM_some, oB_some, oP_some, oT_some, xIdx_some, Nat.zero_add, Nat.add_zero, Nat.mul_one]
    refine ⟨rfl, ?_⟩
    intro b3 n3
    refine xSt_mk (PH.upd_same _ _ _) rfl (by decide) (by simp [oneCell]) (by simp) ?_
    rw [PH.upd_upd, setN2]
    have l3 := PH.le_upd (O := .cells #[.int .i64 p, .int .i64 q] 122 (0, 0)) n3
    have e3 := PH.upd_same h2 b3 (.cells #[.int .i64 p, .int .i64 q] 122 (0, 0))
    have I3 := kI.stays _ _ _ (h2.upd b3 (.cells #[.int .i64 p, .int .i64 q] 122 (0, 0))) I2 (fun b hb => PH.upd_ne _ _ (fun e => kI.known _ _ _ I2 _ hb (e ▸ n3)))
    have xt3 : Ext S0 h (h2.upd b3 (.cells #[.int .i64 p, .int .i64 q] 122 (0, 0))) := fun x O hx hm => l3 _ _ (xt2 x O hx hm)
    generalize h2.upd b3 (.cells #[.int .i64 p, .int .i64 q] 122 (0, 0)) = h3 at l3 e3 I3 xt3 ⊢
    simp only [xNn_some, add_mk, cell_mk, upd_at, del_at, if_true, if_false, Option.bind_some, List.getElem?_toArray, List.getElem?_cons_succ, List.getElem?_cons_zero, oI_some, oS_some, oM_some, oB_some, oP_some, oT_some, xIdx_some, Nat.zero_add, Nat.add_zero, Nat.mul_one, e3]
    have nv : e ∉ v := fun hm => by have := (iff e he').2 hm; rw [hs] at this; cases this
    have nd2 : (v ++ [e]).Nodup := by
      rw [List.nodup_append]
      exact ⟨nd, by simp, fun x hx y hy => by simp at hy; subst hy; exact fun e => nv (e ▸ hx)⟩
    have sub2 : ∀ x ∈ v ++ [e], x ∈ es.toList := by
      intro x hx
      rcases List.mem_append.1 hx with h | h
      · exact sub x h
      · simp at h; subst h; exact he'
    have y := hY v S h3 e I3 he' nd2 sub2
    rw [hk] at y
    intro n W w stt
    obtain ⟨fn, tmps, assign, body, hr, hround⟩ := y n W w stt
    refine ⟨fn, tmps, assign, body, hr, hround.mono ?_⟩
    rintro ex w' ⟨r, h4, rfl, st4, rfl, S', I4, x4, nw⟩
    refine ⟨_, h4, rfl, st4, true, rfl, fun hx => (by cases hx), fun _ => ?_⟩
    have ei3 := l3 _ _ ei2
    have ea3 := l3 _ _ e2
    have notin : ∀ {b : Nat} {O : Obj}, h3 b = some O → b ∉ S → b ∉ S' := fun hb hn hm => by
      rcases nw _ hm with h | h
      · exact hn h
      · rw [hb] at h; cases h
    refine hJ h4 ⟨v ++ [e], S', seen.push e.born, I4, x4 _ _ ei3 bS, x4 _ _ ea3 aS, notin ei3 bS, notin ea3 aS, nd2, sub2, ?_, ?_, ?_⟩ ?_
    · intro x hx
      have i1 := iff x hx
      have key : (seen.push e.born).contains x.born = true ↔ seen.contains x.born = true ∨ x.born = e.born := by simp
      rw [key, i1, List.mem_append, List.mem_singleton]
      constructor
      · rintro (h | h)
        · exact .inl h
        · right
          have h1 := st.find hx
          have h2 := st.find he'
          rw [h, h2] at h1
          simpa using h1.symm
      · rintro (h | h)
        · exact .inl h
        · exact .inr (by rw [h])
    · exact fun x O hx hm => x4 _ _ (xt3 x O hx hm) fun hs => by
        rcases nw0 x hs with h | h
        · exact hm h
        · rw [hx] at h; cases h
    · intro b hb
      rcases nw b hb with h | h
      · exact nw0 b h
      · by_cases hm : b ∈ S0
        · exact .inl hm
        · right
          cases hh : (_ : PH) b with
          | none => exact hh
          | some O => rw [xt3 b O hh hm] at h; cases h
    · rw [x4 _ _ ei3 bS, ei]; exact less

theorem meets_keys_left {I : List MapEntry → List Nat → PH → Prop} (kI : Kept I) {h : PH} {a c0 l : Nat} {es : Array MapEntry} {cl : Nat} {S0 : List Nat} (ea : h a = some (.map es cl)) (ec : h c0 = some (.cells #[.map (some a)] 43 (0, 0))) (st : Stamps es.toList cl) (ks : ∀ e ∈ es.toList, isKey2 (MapEntry.key e))
    (ha : a ∉ S0) (h0 : I [] S0 h)
    (hY : ∀ v S h1 e, I v S h1 → e ∈ es.toList → (v ++ [e]).Nodup → (∀ x ∈ v ++ [e], x ∈ es.toList) → xYield Try.prog l #[MapEntry.key e] h1 fun r h2 => r = .bool true ∧ ∃ S', I (v ++ [e]) S' h2 ∧ Ext S h1 h2 ∧ ∀ b ∈ S', b ∈ S ∨ h1 b = none) :
    Meets Try.prog 108 #[.func (.yield l) #[] #[], .pointer (some ⟨c0, 0, none⟩)] h fun r h' => r = .tuple #[] ∧ ∃ v S, I v S h' ∧ (∀ e, e ∈ es.toList ↔ e ∈ v) ∧ v.Nodup ∧ Ext S0 h h' ∧ ∀ b ∈ S, b ∈ S0 ∨ h b = none := by
  apply P_maps_Keys_map_model_place_model_left_model_place_model_left_1_of
  unfold P_maps_Keys_map_model_place_model_left_model_place_model_left_1
  simp only [xNn_some, add_mk, cell_mk, upd_at, del_at, if_true, if_false, Option.bind_some, List.getElem?_toArray, List.getElem?_cons_succ, List.getElem?_cons_zero, oI_some, oS_some, oM_some, oB_some, oP_some, oT_some, xIdx_some, Nat.zero_add, Nat.add_zero, Nat.mul_one, ec]
  refine ⟨a, es, cl, rfl, ea, fun bi nbi => ?_⟩
  have aS0 : a ≠ bi := ne_of_known ea nbi
  have bS0 : bi ∉ S0 := fun hm => kI.known _ _ _ h0 _ hm nbi
  refine xLoop0 (fun h' => ∃ v S, ∃ seen : Array Nat, I v S h' ∧ h' bi = some (.mapIter (some a) cl seen cl) ∧ h' a = some (.map es cl) ∧ bi ∉ S ∧ a ∉ S ∧ v.Nodup ∧ (∀ e ∈ v, e ∈ es.toList) ∧ (∀ e ∈ es.toList, seen.contains e.born = true ↔ e ∈ v) ∧ Ext S0 h h' ∧ ∀ b ∈ S, b ∈ S0 ∨ h b = none)
    (fun h' => match h' bi with | some (.mapIter _ _ seen _) => leftOf es.toList seen | _ => 0) ?_ ⟨[], S0, #[], kI.stays _ _ _ _ h0 (fun b hb => PH.upd_ne _ _ (fun e => bS0 (e ▸ hb))), PH.upd_same _ _ _, (PH.upd_ne _ _ aS0).trans ea, bS0, ha, List.nodup_nil, by simp, by simp, (Ext.refl S0 h).upd_new nbi, fun b hb => .inl hb⟩
  rintro J h1 ⟨v, S, seen, hI, ei, e1, bS, aS, nd, sub, iff, xt, nw0⟩ hJ
  refine ⟨a, cl, seen, cl, es, cl, ei, e1, fun _ hne => st.all hne, fun hov => ?_, fun e he hs => ?_⟩
  · refine ⟨fun hx => (by cases hx), fun _ => ?_⟩
    refine ⟨by trivial, v, S, hI, fun e => ⟨fun he => ?_, sub e⟩, nd, xt, nw0⟩
    exact (iff e he).1 (hov e (by simpa using he) (st.lt e he))
  · refine ⟨fun _ => ?_, fun hx => (by cases hx)⟩
    have he' : e ∈ es.toList := by simpa using he
    obtain ⟨p, q, hk⟩ := ks e he'
    have less := left_push he' hs
    have ei2 := PH.upd_same h1 bi (.mapIter (some a) cl (seen.push e.born) cl)
    have e2 := (PH.upd_ne h1 (.mapIter (some a) cl (seen.push e.born) cl) aS0).trans e1
    have I2 := kI.stays _ _ _ (h1.upd bi (.mapIter (some a) cl (seen.push e.born) cl)) hI (fun b hb => PH.upd_ne _ _ (fun e => bS (e ▸ hb)))
    have xt2 := xt.upd_new (O := .mapIter (some a) cl (seen.push e.born) cl) nbi
    generalize h1.upd bi (.mapIter (some a) cl (seen.push e.born) cl) = h2 at ei2 e2 I2 xt2 ⊢
    refine ⟨a, cl, seen.push e.born, cl, es, e, e.born, ei2, back_push _ _, e2, ?_, ?_⟩
    · have := st.find he'
      simpa using this
    rw [hk]
    simp only [key2, oAgg_mk, xNn_some, add_mk, cell_mk, upd_at, del_at, if_true, if_false, Option.bind_some, List.getElem?_toArray, List.getElem?_cons_succ, List.getElem?_cons_zero, oI_some, oS_some, oM_some, oB_some, oP_some, oT_some, xIdx_some, Nat.zero_add, Nat.add_zero, Nat.mul_one]
    refine ⟨rfl, ?_⟩
    intro b3 n3
    refine xSt_mk (PH.upd_same _ _ _) rfl (by decide) (by simp [oneCell]) (by simp) ?_
    rw [PH.upd_upd, setN2]
    have l3 := PH.le_upd (O := .cells #[.int .i64 p, .int .i64 q] 122 (0, 0)) n3
    have e3 := PH.upd_same h2 b3 (.cells #[.int .i64 p, .int .i64 q] 122 (0, 0))
    have I3 := kI.stays _ _ _ (h2.upd b3 (.cells #[.int .i64 p, .int .i64 q] 122 (0, 0))) I2 (fun b hb => PH.upd_ne _ _ (fun e => kI.known _ _ _ I2 _ hb (e ▸ n3)))
    have xt3 : Ext S0 h (h2.upd b3 (.cells #[.int .i64 p, .int .i64 q] 122 (0, 0))) := fun x O hx hm => l3 _ _ (xt2 x O hx hm)
    generalize h2.upd b3 (.cells #[.int .i64 p, .int .i64 q] 122 (0, 0)) = h3 at l3 e3 I3 xt3 ⊢
    simp only [xNn_some, add_mk, cell_mk, upd_at, del_at, if_true, if_false, Option.bind_some, List.getElem?_toArray, List.getElem?_cons_succ, List.getElem?_cons_zero, oI_some, oS_some, oM_some, oB_some, oP_some, oT_some, xIdx_some, Nat.zero_add, Nat.add_zero, Nat.mul_one, e3]
    have nv : e ∉ v := fun hm => by have := (iff e he').2 hm; rw [hs] at this; cases this
    have nd2 : (v ++ [e]).Nodup := by
      rw [List.nodup_append]
      exact ⟨nd, by simp, fun x hx y hy => by simp at hy; subst hy; exact fun e => nv (e ▸ hx)⟩
    have sub2 : ∀ x ∈ v ++ [e], x ∈ es.toList := by
      intro x hx
      rcases List.mem_append.1 hx with h | h
      · exact sub x h
      · simp at h; subst h; exact he'
    have y := hY v S h3 e I3 he' nd2 sub2
    rw [hk] at y
    intro n W w stt
    obtain ⟨fn, tmps, assign, body, hr, hround⟩ := y n W w stt
    refine ⟨fn, tmps, assign, body, hr, hround.mono ?_⟩
    rintro ex w' ⟨r, h4, rfl, st4, rfl, S', I4, x4, nw⟩
    refine ⟨_, h4, rfl, st4, true, rfl, fun hx => (by cases hx), fun _ => ?_⟩
    have ei3 := l3 _ _ ei2
    have ea3 := l3 _ _ e2
    have notin : ∀ {b : Nat} {O : Obj}, h3 b = some O → b ∉ S → b ∉ S' := fun hb hn hm => by
      rcases nw _ hm with h | h
      · exact hn h
      · rw [hb] at h; cases h
    refine hJ h4 ⟨v ++ [e], S', seen.push e.born, I4, x4 _ _ ei3 bS, x4 _ _ ea3 aS, notin ei3 bS, notin ea3 aS, nd2, sub2, ?_, ?_, ?_⟩ ?_
    · intro x hx
      have i1 := iff x hx
      have key : (seen.push e.born).contains x.born = true ↔ seen.contains x.born = true ∨ x.born = e.born := by simp
      rw [key, i1, List.mem_append, List.mem_singleton]
      constructor
      · rintro (h | h)
        · exact .inl h
        · right
          have h1 := st.find hx
          have h2 := st.find he'
          rw [h, h2] at h1
          simpa using h1.symm
      · rintro (h | h)
        · exact .inl h
        · exact .inr (by rw [h])
    · exact fun x O hx hm => x4 _ _ (xt3 x O hx hm) fun hs => by
        rcases nw0 x hs with h | h
        · exact hm h
        · rw [hx] at h; cases h
    · intro b hb
      rcases nw b hb with h | h
      · exact nw0 b h
      · by_cases hm : b ∈ S0
        · exact .inl hm
        · right
          cases hh : (_ : PH) b with
          | none => exact hh
          | some O => rw [xt3 b O hh hm] at h; cases h
    · rw [x4 _ _ ei3 bS, ei]; exact less

end Go.Md

/-
  What transitions leave as it was.
-/
set_option linter.unusedSimpArgs false
set_option linter.unusedVariables false
namespace Go.Md
open Go

/-- Why one left: by a Wake, by the time, by an interrupt. -/
def whyOk (l : Pl (Int × Int)) : Prop := ∀ p ∈ l, p.2.2.2 = 0 ∨ p.2.2.2 = 12 ∨ p.2.2.2 = 13
structure Ms.Ok (s : Ms) : Prop where
  once : s.Once
  why : whyOk s.left
  nm : s.mons.length ≤ 8
  nf : s.flags.length ≤ 8
  rw : inRng s.waits
  rl : inRng s.left
theorem Ms.Ok.few {s : Ms} (k : s.Ok) : s.waits.length ≤ 64 := Pl.once_le k.once.w k.rw
theorem Ms.Ok.few' {s : Ms} (k : s.Ok) : s.left.length ≤ 64 := Pl.once_le k.once.l k.rl

theorem Pl.mem_put {α : Type} {l : Pl α} {o t : Int} {x : α} {p : Int × Int × α} (h : p ∈ l.put o t x) : p ∈ l ∨ p = (o, t, x) := by
  induction l with
  | nil => simp [Pl.put] at h; exact .inr h
  | cons q l ih =>
    unfold Pl.put at h
    split at h
    · rcases List.mem_cons.1 h with h | h
      · exact .inr h
      · exact .inl (List.mem_cons_of_mem _ h)
    · rcases List.mem_cons.1 h with h | h
      · exact .inl (h ▸ List.mem_cons_self ..)
      · rcases ih h with h | h
        · exact .inl (List.mem_cons_of_mem _ h)
        · exact .inr h
theorem Pl.find_in {α : Type} {l : Pl α} {o t : Int} {x : α} (h : l.find o t = some x) : ∃ p ∈ l, p.2.2 = x := by
  unfold Pl.find at h
  cases hf : List.find? (fun p => p.1 == o && p.2.1 == t) l with
  | none => rw [hf] at h; cases h
  | some p =>
    rw [hf] at h
    simp only [Option.map_some, Option.some.injEq] at h
    exact ⟨p, List.mem_of_find?_eq_some hf, h⟩

theorem Pl.find_key {α : Type} {l : Pl α} {o t : Int} {x : α} (h : l.find o t = some x) : ∃ p ∈ l, p.1 = o ∧ p.2.1 = t := by
  unfold Pl.find at h
  cases hf : List.find? (fun p => p.1 == o && p.2.1 == t) l with
  | none => rw [hf] at h; cases h
  | some p =>
    have := List.find?_some hf
    simp only [Bool.and_eq_true, beq_iff_eq] at this
    exact ⟨p, List.mem_of_find?_eq_some hf, this.1, this.2⟩
theorem inRng_put {α : Type} {l : Pl α} {o t : Int} {x : α} (r : inRng l) (ho : 0 ≤ o ∧ o < 8) (ht : 0 ≤ t ∧ t < 8) : inRng (l.put o t x) := by
  intro p hp
  rcases Pl.mem_put hp with h | h
  · exact r p h
  · subst h; exact ⟨ho, ht⟩
theorem inRng_del {α : Type} {l : Pl α} {o t : Int} (r : inRng l) : inRng (l.del o t) := fun p hp => r p ((Pl.del_sub _ _ _).subset hp)

theorem ok_leave {s s' : Ms} (k : s.Ok) {o t w : Int} (hw : w = 0 ∨ w = 12 ∨ w = 13) (h : s.leave o t w = some s') : s'.Ok := by
  unfold Ms.leave at h
  cases hf : s.waits.find o t with
  | none => rw [hf] at h; cases h
  | some n =>
    rw [hf] at h
    simp only [Option.some.injEq] at h
    subst h
    obtain ⟨q, hq, e1, e2⟩ := Pl.find_key hf
    have hr := k.rw q hq
    rw [e1, e2] at hr
    refine ⟨⟨Pl.once_del k.once.w _ _, Pl.once_put k.once.l _ _ _⟩, fun p hp => ?_, k.nm, k.nf, inRng_del k.rw, inRng_put k.rl hr.1 hr.2⟩
    rcases Pl.mem_put hp with h | h
    · exact k.why p h
    · subst h; exact hw

/-- A transition that is taken, and tells ErrState, ErrOver, ErrOut or ErrBusy, turns nothing; the model stays in order. -/
theorem apply_ok {s s' : Ms} (k : s.Ok) (e : Ev) (hm : s.may e = true) (h : s.apply e = some s') : s'.Ok ∧ (e.err = 9 ∨ e.err = 10 ∨ e.err = 14 ∨ e.err = 11 → s' = s) := by
  have same : ∀ {x : Ms}, some x = some s' → x = s → s'.Ok ∧ (e.err = 9 ∨ e.err = 10 ∨ e.err = 14 ∨ e.err = 11 → s' = s) := by
    intro x hx e1
    simp only [Option.some.injEq] at hx
    subst hx; subst e1; exact ⟨k, fun _ => rfl⟩
  have mons : ∀ {m : List Mo} {f : List Bool}, s' = { s with mons := m, flags := f } → m.length = s.mons.length → f.length = s.flags.length → s'.Ok := by
    intro m f e l1 l2; subst e; exact ⟨⟨k.once.w, k.once.l⟩, k.why, by rw [l1]; exact k.nm, by rw [l2]; exact k.nf, k.rw, k.rl⟩
  have lo : ∀ (o : Int) (m : Mo), (s.setMon o m).mons.length = s.mons.length := fun o m => by simp [Ms.setMon]
  have lf : ∀ (t : Int) (b : Bool), (s.setFlag t b).flags.length = s.flags.length := fun t b => by simp [Ms.setFlag]
  have rng : (0 ≤ e.obj ∧ e.obj < 8) ∧ (0 ≤ e.thread ∧ e.thread < 8) := by
    have h1 := k.nm
    have h2 := k.nf
    simp only [Ms.may, Ms.isThread, Ms.isObj, Bool.and_eq_true, decide_eq_true_eq] at hm
    omega
  unfold Ms.apply at h
  split at h
  · split at h
    · unfold Ms.enter at h
      split at h
      · rename_i he
        split at h
        · cases h
        · simp only [Option.some.injEq] at h
          exact ⟨mons (f := s.flags) h.symm (lo _ _) rfl, fun hx => by omega⟩
      · split at h
        · split at h
          · exact same h rfl
          · cases h
        split at h
        · split at h
          · exact same h rfl
          · cases h
        split at h
        · split at h
          · exact same h rfl
          · cases h
        · cases h
    · cases h
  split at h
  · split at h
    · unfold Ms.exit at h
      split at h
      · split at h
        · cases h
        · exact same h rfl
      · rename_i he
        split at h
        · cases h
        · rename_i hb
          have h0 : e.err = 0 := by simp at hb; exact hb.1
          simp only [Option.some.injEq] at h
          exact ⟨mons (f := s.flags) h.symm (lo _ _) rfl, fun hx => by omega⟩
    · cases h
  split at h
  · split at h
    · unfold Ms.begin at h
      split at h
      · split at h
        · cases h
        · exact same h rfl
      split at h
      · split at h
        · exact same h rfl
        · cases h
      split at h
      · rename_i he
        split at h
        · simp only [Option.some.injEq] at h
          exact ⟨mons (m := s.mons) h.symm rfl (lf _ _), fun hx => by omega⟩
        · cases h
      split at h
      · rename_i he
        split at h
        · simp only [Option.some.injEq] at h
          subst h
          exact ⟨⟨⟨Pl.once_put k.once.w _ _ _, k.once.l⟩, k.why, by rw [lo]; exact k.nm, k.nf, inRng_put k.rw rng.1 rng.2, k.rl⟩, fun hx => by omega⟩
        · cases h
      · cases h
    · cases h
  split at h
  · split at h
    · rename_i hb
      simp only [Bool.and_eq_true, Bool.or_eq_true, beq_iff_eq] at hb
      have hw : e.err = 12 ∨ e.err = 13 := by rcases hb.2 with h | h; exact .inr h; exact .inl h.1
      exact ⟨ok_leave k (.inr hw) h, fun hx => by omega⟩
    · cases h
  split at h
  · split at h
    · unfold Ms.fin at h
      cases hf : s.left.find e.obj e.thread with
      | none => rw [hf] at h; cases h
      | some l =>
        rw [hf] at h
        simp only [] at h
        split at h
        · cases h
        · rename_i hb
          have he : l.2 = e.err := by simp at hb; exact hb.2
          obtain ⟨p, hp, hl⟩ := Pl.find_in hf
          have hw := k.why p hp
          rw [hl, he] at hw
          simp only [Option.some.injEq] at h
          have ok1 : whyOk (s.left.del e.obj e.thread) := fun q hq => k.why q ((Pl.del_sub _ _ _).subset hq)
          refine ⟨?_, fun hx => by omega⟩
          subst h
          split
          · exact ⟨⟨k.once.w, Pl.once_del k.once.l _ _⟩, ok1, by simp [Ms.setFlag, Ms.setMon]; exact k.nm, by simp [Ms.setFlag, Ms.setMon]; exact k.nf, k.rw, inRng_del k.rl⟩
          · exact ⟨⟨k.once.w, Pl.once_del k.once.l _ _⟩, ok1, by simp [Ms.setMon]; exact k.nm, k.nf, k.rw, inRng_del k.rl⟩
    · cases h
  split at h
  · unfold Ms.tell at h
    split at h
    · split at h
      · rename_i hb
        simp only [Bool.and_eq_true, beq_iff_eq] at hb
        exact ⟨ok_leave k (.inl rfl) h, fun hx => by omega⟩
      · cases h
    split at h
    · split at h
      · exact same h rfl
      · cases h
    split at h
    · cases h
    split at h
    · split at h
      · exact same h rfl
      · cases h
    · split at h
      · exact same h rfl
      · cases h
  split at h
  · unfold Ms.hash at h
    split at h
    · split at h
      · exact same h rfl
      · cases h
    · split at h
      · cases h
      · rename_i hb
        have h0 : e.err = 0 := by simp at hb; exact hb.1.1
        simp only [Option.some.injEq] at h
        exact ⟨mons (f := s.flags) h.symm (lo _ _) rfl, fun hx => by omega⟩
  split at h
  · unfold Ms.holds at h
    split at h
    · exact same h rfl
    · cases h
  split at h
  · split at h
    · cases h
    · rename_i hb
      have h0 : e.err = 0 := by simp at hb; exact hb.1
      simp only [Option.some.injEq] at h
      exact ⟨mons (m := s.mons) h.symm rfl (lf _ _), fun hx => by omega⟩
  · cases h

theorem next_ok {s : Ms} (k : s.Ok) (e : Ev) : (s.next e).Ok := by
  unfold Ms.next Ms.step
  split
  · rename_i hm
    cases h : s.apply e with
    | none => exact k
    | some s' => exact (apply_ok k e hm h).1
  · exact k
theorem next_still {s : Ms} (k : s.Ok) (e : Ev) (h : s.code e ≠ 0 ∨ e.err = 9 ∨ e.err = 10 ∨ e.err = 14 ∨ e.err = 11) : s.next e = s := by
  unfold Ms.code at h
  unfold Ms.next Ms.step at *
  split
  · rename_i hm
    rw [if_pos hm] at h
    cases ha : s.apply e with
    | none => rfl
    | some s' =>
      rw [ha] at h
      rcases h with h | h
      · exact absurd rfl h
      · exact (apply_ok k e hm ha).2 h
  · rfl
theorem new_ok (t o c : Int) (ht : t ≤ 8) (ho : o ≤ 8) : (Ms.new t o c).Ok := ⟨⟨by simp [Ms.new, Pl.Once], by simp [Ms.new, Pl.Once]⟩, by simp [Ms.new, whyOk], by simp [Ms.new]; omega, by simp [Ms.new]; omega, by simp [Ms.new, inRng], by simp [Ms.new, inRng]⟩

/-- An interrupted Begin turns the flag alone. -/
theorem begin_intr {s : Ms} {e : Ev} (hc : s.code e = 0) (hk : e.kind = 4) (he : e.err = 12) : s.isThread e.thread = true ∧ s.flag e.thread = true ∧ s.next e = s.setFlag e.thread false := by
  unfold Ms.code at hc
  unfold Ms.next
  cases hs : s.step e with
  | none => rw [hs] at hc; simp at hc
  | some s' =>
    have hs' := hs
    unfold Ms.step at hs
    split at hs
    · rename_i hm
      have hth : s.isThread e.thread = true := by
        simp only [Ms.may, Bool.and_eq_true] at hm; exact hm.1.1
      unfold Ms.apply at hs
      rw [if_neg (by omega), if_neg (by omega), if_pos hk] at hs
      split at hs
      · unfold Ms.begin at hs
        rw [if_neg (by omega), if_neg (by omega), if_pos he] at hs
        split at hs
        · rename_i hb
          simp only [Bool.and_eq_true] at hb
          simp only [Option.some.injEq] at hs
          exact ⟨hth, hb.2, by simp [hs]⟩
        · cases hs
      · cases hs
    · cases hs

end Go.Md

/-
  SX, part 15: a function that ranges over a function: its reading, and that it is a contract.
-/
namespace Go.Sx
open Go

/-- The range over a function: the record and the block for deferred calls are laid; the function that is ranged over is called with yield; the record ends. -/
def xRF (P : Program) (f : FuncId) (fs : List Value) (ps : Array Tmp) (assign body : Code) (e : Env) (m : Nat) (h : PH) (K : Nat → PH → Prop) : Prop :=
  ∀ (fn : FuncId) (tmps : Array Value) (b l : Nat), m ≤ tmps.size → Fits e { tmps := tmps, defers := [] } → h b = none → h l = none → b ≠ l →
    Meets P f (.func (.yield l) #[] #[] :: fs).toArray ((h.upd b (.deferred (some []))).upd l (.loop { state := .ready, pending := none, fn := fn, tmps := tmps, params := ps, assign := assign, body := body, defers := b })) fun _ h2 =>
      ∃ r : Loop, h2 l = some (.loop r) ∧ r.state ≠ .busy ∧ r.pending = none ∧ K b (h2.upd l (.loop { r with state := .exhausted }))

/-- .. of a function value that is known by what it leads to. -/
def enterable (P : Program) (f : FuncId) : Bool :=
  match P.funcs[f]? with
  | some fn => !(fn.name == "runtime.NumGoroutine") && fn.body.isSome
  | none => false
theorem enterable_run {P : Program} {f : FuncId} (h : enterable P f = true) (args : Array Value) (w : World) : (callFunc f args).run P w = .ok (.enter f args) w := by
  unfold enterable at h
  split at h
  · rename_i fn hf
    simp only [Bool.and_eq_true, Bool.not_eq_true', beq_eq_false_iff_ne, ne_eq] at h
    obtain ⟨h1, h2⟩ := h
    cases hb : fn.body with
    | none => rw [hb] at h2; cases h2
    | some c => simp [callFunc, hf, h1, hb]
  · cases h

def xRFv (P : Program) (v : Value) (ps : Array Tmp) (assign body : Code) (e : Env) (m : Nat) (h : PH) (K : Nat → PH → Prop) : Prop :=
  ∃ (f : FuncId) (fs : List Value), v = .func (.func f) #[] fs.toArray ∧ enterable P f = true ∧ xRF P f fs ps assign body e m h K
/-- The two codes of a function's range over a function. -/
def rfOf : Code → Option (Code × Code)
  | .rangeFunc _ _ a b => some (a, b)
  | .seq x y => (match rfOf x with | some p => some p | none => rfOf y)
  | .block _ c => rfOf c
  | _ => none
def rfBoth (fn : Func) : Code × Code := match fn.body with | some c => (rfOf c).getD (.skip, .skip) | none => (.skip, .skip)
def rfAssign (fn : Func) : Code := (rfBoth fn).1
def rfBody (fn : Func) : Code := (rfBoth fn).2
/-- A round's environment. -/
theorem fits_round {e : Env} {tm : Array Value} {t : Nat} {v : Value} (f : Fits e { tmps := tm, defers := [] }) (ht : t < tm.size) : Fits ((t, v) :: e) { tmps := ((#[t] : Array Tmp).zip #[v]).foldl (fun tmps (t, a) => tmps.setIfInBounds t a) tm, defers := [] } := by
  have := f.put (some t) v (fun s hs => by cases hs; exact ht)
  refine ⟨fun s u hs => ?_⟩
  have h2 := this.g s u hs
  simpa [Act.put] using h2

/-- A round, its codes named. -/
theorem yield_of2 {P : Program} {l : Nat} {r : Loop} {h : PH} {args : Array Value} {e0 : Env} {A B : Code} {annA annB : Ann} {K : Value → PH → Prop} {m : Nat} (eA : r.assign = A) (eB : r.body = B) (hl : h l = some (.loop r)) (hs : r.state = .ready) (ha : args.size = r.params.size)
    (hf : Fits e0 { tmps := (r.params.zip args).foldl (fun tmps (t, a) => tmps.setIfInBounds t a) r.tmps, defers := [] }) (hm : m ≤ ((r.params.zip args).foldl (fun tmps (t, a) => tmps.setIfInBounds t a) r.tmps).size)
    (hinA : codeIn m A = true) (hinB : codeIn m B = true)
    (hd : dCodeI P A annA e0 h (fun e1 h1 => h1 l = some (.loop r) ∧ dCodeI P B annB e1 (h1.upd l (.loop { r with state := .busy })) (fun _ h2 => h2 l = some (.loop { r with state := .busy }) ∧ K (.bool true) (h2.upd l (.loop { r with state := .ready, pending := none }))) (fun _ _ _ => False) (fun _ _ => False)) (fun _ _ _ => False) (fun _ _ => False)) :
    xYield P l args h K := by
  subst eA
  subst eB
  exact yield_of hl hs ha hf hm hinA hinB hd

/-- Code that ranges over functions, outermost, with nothing in it that leaves a loop early; 'D': the blocks for deferred calls. -/
def dCodeR (P : Program) (m : Nat) : Code → Ann → Env → PH → List Nat → (Env → PH → List Nat → Prop) → (Env → PH → List Nat → Prop) → Prop
  | .seq x y, ann, e, h, D, k, kr =>
    match ann with
    | .seq ax ay => dCodeR P m x ax e h D (fun e' h' D' => dCodeR P m y ay e' h' D' k kr) kr
    | _ => False
  | .block _ c, ann, e, h, D, k, kr =>
    match ann with
    | .block _ a => dCodeR P m c a e h D k kr
    | _ => False
  | .rangeFunc g ps assign body, _, e, h, D, k, _ =>
    match ev e g with
    | some v => xRFv P v ps assign body e m h fun b h' => k e h' (b :: D)
    | none => False
  | .region i ops d, ann, e, h, D, k, kr => dCodeI P (.region i ops d) ann e h (fun e' h' => k e' h' D) (fun _ _ _ => False) (fun e' h' => kr e' h' D)
  | .ret, ann, e, h, D, k, kr => dCodeI P .ret ann e h (fun e' h' => k e' h' D) (fun _ _ _ => False) (fun e' h' => kr e' h' D)
  | .skip, ann, e, h, D, k, kr => dCodeI P .skip ann e h (fun e' h' => k e' h' D) (fun _ _ _ => False) (fun e' h' => kr e' h' D)
  | .cond c x y, ann, e, h, D, k, kr => dCodeI P (.cond c x y) ann e h (fun e' h' => k e' h' D) (fun _ _ _ => False) (fun e' h' => kr e' h' D)
  | .loop c, ann, e, h, D, k, kr => dCodeI P (.loop c) ann e h (fun e' h' => k e' h' D) (fun _ _ _ => False) (fun e' h' => kr e' h' D)
  | _, _, _, _, _, _, _ => False

def markOf (b : Nat) : Deferred := { target := .collected b, args := #[] }
def PostR (W : World) (m : Nat) (k kr : Env → PH → List Nat → Prop) : Exit → Act → World → Prop
  | .normal, a, w => ∃ e h D, Fits e a ∧ St W h w ∧ a.defers = D.map markOf ∧ m ≤ a.tmps.size ∧ k e h D
  | .ret, a, w => ∃ e h D, Fits e a ∧ St W h w ∧ a.defers = D.map markOf ∧ kr e h D
  | _, _, _ => False

def codeInR (m : Nat) : Code → Bool
  | .seq x y => codeInR m x && codeInR m y
  | .block _ c => codeInR m c
  | .rangeFunc .. => true
  | c => codeIn m c

theorem dCodeR_sound {P : Program} {dp : Nat} {W : World} {m : Nat} : ∀ (c : Code) (ann : Ann) (e : Env) (h : PH) (D : List Nat) (k kr : Env → PH → List Nat → Prop) (a : Act) (w : World),
    dCodeR P m c ann e h D k kr → codeInR m c = true → Fits e a → St W h w → a.defers = D.map markOf → m ≤ a.tmps.size → c.wpIn Fence.wide dp P (PostR W m k kr) a w := by
  intro c
  have plain : ∀ (c : Code) (ann : Ann) (e : Env) (h : PH) (D : List Nat) (k kr : Env → PH → List Nat → Prop) (a : Act) (w : World),
      dCodeI P c ann e h (fun e' h' => k e' h' D) (fun _ _ _ => False) (fun e' h' => kr e' h' D) → codeIn m c = true → Fits e a → St W h w → a.defers = D.map markOf → m ≤ a.tmps.size → c.wpIn Fence.wide dp P (PostR W m k kr) a w := by
    intro c ann e h D k kr a w hd hin hf st hD hsz
    refine wpIn_mono (dCodeI_sound wd_wide (dp := dp) c ann e h _ _ _ a w hd hin hf st hsz) ?_
    intro ex a' w' hp
    cases ex with
    | normal => obtain ⟨hk, e', h', f', s', x⟩ := hp; exact ⟨e', h', D, f', s', hk.3.trans hD, by rw [hk.1]; exact hsz, x⟩
    | ret => obtain ⟨hk, e', h', f', s', x⟩ := hp; exact ⟨e', h', D, f', s', hk.trans hD, x⟩
    | exit id => exact hp.2.elim fun _ ⟨_, _, _, hx⟩ => hx
    | goto l => exact (show False from hp).elim
    | panic ch => exact (show False from hp).elim
    | outgrown => exact (show False from hp).elim
  induction c with
  | seq x y ihx ihy =>
    intro ann e h D k kr a w hd hin hf st hD hsz
    unfold dCodeR at hd
    split at hd
    · rename_i ax ay
      simp only [codeInR, Bool.and_eq_true] at hin
      refine wpIn_seq (wpIn_mono (ihx ax e h D _ kr a w hd hin.1 hf st hD hsz) ?_)
      intro ex a' w' hp
      cases ex with
      | normal =>
        obtain ⟨e', h', D', hf', st', hD', hsz', hd'⟩ := hp
        exact ihy ay e' h' D' k kr a' w' hd' hin.2 hf' st' hD' hsz'
      | ret => exact hp
      | exit id => exact (show False from hp).elim
      | goto l => exact (show False from hp).elim
      | panic ch => exact (show False from hp).elim
      | outgrown => exact (show False from hp).elim
    · exact hd.elim
  | block id c ih =>
    intro ann e h D k kr a w hd hin hf st hD hsz
    unfold dCodeR at hd
    split at hd
    · rename_i sl ax
      refine wpIn_block (wpIn_mono (ih ax e h D k kr a w hd hin hf st hD hsz) ?_)
      intro ex a' w' hp
      cases ex with
      | normal => exact hp
      | ret => exact hp
      | exit id => exact (show False from hp).elim
      | goto l => exact (show False from hp).elim
      | panic ch => exact (show False from hp).elim
      | outgrown => exact (show False from hp).elim
    · exact hd.elim
  | rangeFunc g ps assign body =>
    intro ann e h D k kr a w hd hin hf st hD hsz
    unfold dCodeR at hd
    split at hd
    · rename_i v hev
      obtain ⟨f, fs, rfl, hen, hd⟩ := hd
      refine wpIn_rangeFunc fun fn _ => ?_
      have hg : a.eval g = .func (.func f) #[] fs.toArray := hf.ev hev
      have s1 := st.push (.deferred (some []))
      have n1 : h w.heap.size = none := st.fresh
      have n2 : (h.upd w.heap.size (.deferred (some []))) (w.heap.size + 1) = none := by
        have := s1.fresh
        simpa using this
      have n2' : h (w.heap.size + 1) = none := by rw [PH.upd_ne _ _ (by omega)] at n2; exact n2
      have s2 := s1.push (.loop { state := .ready, pending := none, fn := fn, tmps := a.tmps, params := ps, assign := assign, body := body, defers := w.heap.size })
      have hsz1 : ({ w with heap := w.heap.push (.deferred (some [])) } : World).heap.size = w.heap.size + 1 := by simp
      rw [hsz1] at s2
      have call := hd fn a.tmps w.heap.size (w.heap.size + 1) hsz ⟨hf.g⟩ n1 n2' (by omega) W _ s2
      let w1 : World := (w.alloc (.deferred (some []))).alloc (.loop { state := .ready, pending := none, fn := fn, tmps := a.tmps, params := ps, assign := assign, body := body, defers := w.heap.size })
      refine ⟨w.heap.size + 1, [markOf w.heap.size], w1, { target := .fn (.func f) fs.toArray, args := #[.func (.yield (w.heap.size + 1)) #[] #[]] }, w1, f, (.func (.yield (w.heap.size + 1)) #[] #[] :: fs).toArray, w1, run_enterLoop_outer fn a.tmps ps assign body, ?_, fun _ _ => trivial, ?_, fun hd => (by cases hd), callsIn_wide.2 (call.mono ?_)⟩
      · simp only [resolve, hg, Deferred.ofValue]
        have hc : a.eval (.const (.func (.yield (w.heap.size + 1)) #[] #[])) = .func (.yield (w.heap.size + 1)) #[] #[] := rfl
        simp [hc]
      · show (callFunc f _).run P _ = _
        have : (#[Value.func (.yield (w.heap.size + 1)) #[] #[]] ++ fs.toArray) = (Value.func (.yield (w.heap.size + 1)) #[] #[] :: fs).toArray := by simp
        rw [this]
        exact enterable_run hen _ _
      · rintro ex w' ⟨v, h', rfl, st', r, hl, hbusy, hpend, hk⟩
        have hw := st'.sh _ _ hl
        have hlt : w.heap.size + 1 < w'.heap.size := (Array.getElem?_eq_some_iff.1 hw).1
        refine ⟨r.pending, _, run_endLoop hw hbusy, ?_⟩
        obtain ⟨st0, pd, fn0, tm0, pr0, as0, bd0, df0⟩ := r
        dsimp only at hpend
        subst hpend
        exact ⟨e, _, w.heap.size :: D, ⟨hf.g⟩, st'.setObj _ _ hlt, by rw [hD]; rfl, hsz, hk⟩
    · exact hd.elim
  | skip => exact fun ann e h D k kr a w hd hin hf st hD hsz => plain _ ann e h D k kr a w hd hin hf st hD hsz
  | region id ops draw => exact fun ann e h D k kr a w hd hin hf st hD hsz => plain _ ann e h D k kr a w hd hin hf st hD hsz
  | ret => exact fun ann e h D k kr a w hd hin hf st hD hsz => plain _ ann e h D k kr a w hd hin hf st hD hsz
  | cond c x y => exact fun ann e h D k kr a w hd hin hf st hD hsz => plain _ ann e h D k kr a w hd hin hf st hD hsz
  | loop c => exact fun ann e h D k kr a w hd hin hf st hD hsz => plain _ ann e h D k kr a w hd hin hf st hD hsz
  | _ => intro ann e h D k kr a w hd; exact hd.elim


/-- All blocks for deferred calls are there, and come away. -/
def marksOk : List Nat → PH → Prop
  | [], _ => True
  | b :: D, h => h b = some (.deferred (some [])) ∧ marksOk D (h.upd b (.deferred none))
def closeM : List Nat → PH → PH
  | [], h => h
  | b :: D, h => closeM D (h.upd b (.deferred none))

/-- The reading of a function that ranges over functions. -/
def dFnR (P : Program) (fn : Func) (ann : Ann) (args : Array Value) (h : PH) (Q : Value → PH → Prop) : Prop :=
  match fn.body with
  | some c => dCodeR P fn.ntmps c ann (argEnv args.toList 0) h [] (fun e h' D => marksOk D h' ∧ dRets P fn.results.toList e (closeM D h') fun vs => Q (retVal vs) (closeM D h')) (fun e h' D => marksOk D h' ∧ dRets P fn.results.toList e (closeM D h') fun vs => Q (retVal vs) (closeM D h'))
  | none => False
def fnOkR (fn : Func) (n : Nat) : Bool :=
  match fn.body with
  | some c => codeInR fn.ntmps c && Nat.ble n fn.ntmps
  | none => false

theorem leaves_marks {P : Program} {n : Nat} {fn : Func} {tmps : Array Value} {R : Ending → World → Prop} {W : World} : ∀ (D : List Nat) (h : PH) (w : World), St W h w → marksOk D h → (∀ w', St W (closeM D h) w' → ∃ v, (results fn tmps).run P w' = .ok v w' ∧ R (.returned v) w') → LeavesInM Fence.wide n P fn tmps R (D.map markOf) .returning w := by
  intro D
  induction D with
  | nil => exact fun h w st _ fin => fin w st
  | cons b D ih =>
    intro h w st hm fin
    obtain ⟨hb, hm⟩ := hm
    have hw := st.sh _ _ hb
    have hlt : b < w.heap.size := (Array.getElem?_eq_some_iff.1 hw).1
    exact ⟨by simp, .inl ⟨b, _, rfl, run_takeDeferred hw, ih _ _ (st.setObj b _ hlt) hm fin⟩⟩

theorem specR_of {P : Program} {f : FuncId} {fn : Func} {ann : Ann} {args : Array Value} {h : PH} {Q : Value → PH → Prop} (hf : P.funcs[f]? = some fn) (hok : fnOkR fn args.size = true)
    (hd : dFnR P fn ann args h Q) : Meets P f args h Q := by
  intro W w st
  unfold dFnR at hd
  unfold fnOkR at hok
  cases hb : fn.body with
  | none => rw [hb] at hd; exact hd.elim
  | some c =>
    rw [hb] at hd hok
    simp only [Bool.and_eq_true] at hok
    obtain ⟨hin, hle⟩ := hok
    have hle := Nat.le_of_ble_eq_true hle
    refine (callsIn_wide (n := 0)).1 (callsIn_of_wp_marks hf hb trivial ?_ rfl)
    have hsz : (args ++ Array.replicate (fn.ntmps - args.size) undef).size = fn.ntmps := by simp; omega
    have hfit : Fits (argEnv args.toList 0) { tmps := args ++ Array.replicate (fn.ntmps - args.size) undef, defers := [] } := by
      refine ⟨fun t v hg => ?_⟩
      obtain ⟨_, hv⟩ := argEnv_get _ _ _ _ hg
      simp only [Nat.sub_zero] at hv
      have hv' : args[t]? = some v := by simpa using hv
      have hlt : t < args.size := (Array.getElem?_eq_some_iff.1 hv').1
      simp only [Array.getElem?_append, hlt, if_true]
      exact hv'
    refine wpIn_mono (dCodeR_sound c ann _ h [] _ _ _ w hd hin hfit st rfl (by rw [hsz]; exact Nat.le_refl _)) ?_
    have fin : ∀ (a : Act) (w' : World) (e : Env) (h' : PH) (D : List Nat), a.defers = D.map markOf → Fits e a → St W h' w' → marksOk D h' → dRets P fn.results.toList e (closeM D h') (fun vs => Q (retVal vs) (closeM D h')) →
        LeavesInM Fence.wide 0 P fn a.tmps (fun e w' => ∃ v h', e = .returned v ∧ St W h' w' ∧ Q v h') a.defers .returning w' := by
      intro a w' e h' D hdf hf' st' hm hr
      rw [hdf]
      refine leaves_marks D h' w' st' hm fun w2 st2 => ?_
      obtain ⟨vs, hQ, hrun⟩ := dRets_sound hf' st2 _ _ hr
      refine ⟨retVal vs, ?_, retVal vs, _, rfl, st2, hQ⟩
      rw [results_eq]
      have hl : fn.results = fn.results.toList.toArray := by simp
      rw [hl, List.mapM_toArray, Sem.run_bind, Sem.run_map, hrun]
      simp only [Result.andThen_ok]
      unfold retVal
      cases vs with
      | nil => rfl
      | cons v r =>
        cases r with
        | nil => rfl
        | cons u r =>
          simp only [List.size_toArray, List.length_cons]
          rw [dif_neg (by omega)]
          rfl
    intro ex a w' hp
    cases ex with
    | normal => obtain ⟨e, h', D, hf', st', hD, _, hm, hr⟩ := hp; exact fin a w' e h' D hD hf' st' hm hr
    | ret => obtain ⟨e, h', D, hf', st', hD, hm, hr⟩ := hp; exact fin a w' e h' D hD hf' st' hm hr
    | exit id => exact (show False from hp).elim
    | goto l => exact (show False from hp).elim
    | panic ch => exact (show False from hp).elim
    | outgrown => exact (show False from hp).elim

end Go.Sx

/- The readings of some functions, printed by a program of the session (wip/tools/sx.py): each by one equation that the kernel reckons. -/
set_option linter.unusedVariables false
namespace Go.Proofs.Ytnnedfhpicdacaa
open Go Go.Sx Go.Proofs
def AA_model_threads_int : Ann := .leaf
def AB_model_threads_int : Ann := .block [] (.seq (.leaf) (.cond [] (.leaf) (.leaf)))
/-- A round of futtock/model.threads[int]. -/
def R_model_threads_int (y8 : Value) (y7 : Option Nat) (y5 : Addr) (y4 : Option Addr) (y4_1 : Nat) (y4_2 : Nat) (y3 : Addr) (y0 : Option Nat) (y1 : Int) (z0 : Int) (z1 : Int) (r : Loop) (l : Nat) (h : PH) (K : Value → PH → Prop) : Prop :=
 xNew h (.cells #[(.int .i64 0), (.int .i64 0)] 122 (0, 0)) fun b6 h_4 =>
 xSt 2 h_4 (⟨b6, 0, none⟩ : Addr) [(.int .i64 z0), (.int .i64 z1)] fun h_5 =>
 h_5 l = some (.loop r) ∧
 xBlk (fun J_1 =>
 oI .i64 ((h_5.upd l (.loop { r with state := .busy })).cell ((⟨b6, 0, none⟩ : Addr).add 0)) fun x11 =>
 oI .i64 ((h_5.upd l (.loop { r with state := .busy })).cell y3) fun x12 =>
 xIte (x11 == x12) (fun J_2 =>
 oS ((h_5.upd l (.loop { r with state := .busy })).cell y5) fun x14a x14l x14c =>
 oI .i64 ((h_5.upd l (.loop { r with state := .busy })).cell ((⟨b6, 0, none⟩ : Addr).add 1)) fun x16 =>
 xNew (h_5.upd l (.loop { r with state := .busy })) (.cells #[(.int .i64 x16)] 3 (0, 0)) fun b17 h_6 =>
 xApp h_6 3 1 8 x14a x14l x14c (.slice (some (⟨b17, 0, none⟩ : Addr)) 1 1) fun x18a x18l x18c h_7 =>
 xSt 1 h_7 y5 [(.slice x18a x18l x18c)] fun h_8 =>
 J_2 h_8)
 (fun J_2 =>
 J_2 (h_5.upd l (.loop { r with state := .busy })))
 (fun  (h_9 : PH) =>
 J_1 h_9))
 (fun  (h_10 : PH) =>
 h_10 l = some (.loop { r with state := .busy }) ∧ K (.bool true) (h_10.upd l (.loop { r with state := .ready, pending := none })))
theorem R_model_threads_int_eq (y8 : Value) (y7 : Option Nat) (y5 : Addr) (y4 : Option Addr) (y4_1 : Nat) (y4_2 : Nat) (y3 : Addr) (y0 : Option Nat) (y1 : Int) (z0 : Int) (z1 : Int) (r : Loop) (l : Nat) (h : PH) (K : Value → PH → Prop) : dCodeI Try.prog (rfAssign Try.f59) AA_model_threads_int [(9, (.agg #[(.int .i64 z0), (.int .i64 z1)])), (8, y8), (7, (.map y7)), (5, (.pointer (some y5))), (4, (.slice y4 y4_1 y4_2)), (3, (.pointer (some y3))), (0, (.map y0)), (1, (.int .i64 y1))] h (fun e1 h1 => h1 l = some (.loop r) ∧ dCodeI Try.prog (rfBody Try.f59) AB_model_threads_int e1 (h1.upd l (.loop { r with state := .busy })) (fun _ h2 => h2 l = some (.loop { r with state := .busy }) ∧ K (.bool true) (h2.upd l (.loop { r with state := .ready, pending := none }))) (fun _ _ _ => False) (fun _ _ => False)) (fun _ _ _ => False) (fun _ _ => False) = R_model_threads_int y8 y7 y5 y4 y4_1 y4_2 y3 y0 y1 z0 z1 r l h K := by kernel_rfl
/-- futtock/model.threads[int] -/
def A_model_threads_int : Ann := .seq (.leaf) (.seq (.leaf) (.seq (.seq (.leaf) (.block [] (.leaf))) (.seq (.leaf) (.seq (.leaf) (.leaf)))))
def P_model_threads_int (a0 : Option Nat) (a1 : Int) (h : PH) (Q : Value → PH → Prop) : Prop :=
 xNew h (.cells #[(.int .i64 a1)] 3 (0, 0)) fun b3 h_1 =>
 xNew h_1 (.cells #[(.slice none 0 0)] 47 (0, 0)) fun b5 h_2 =>
 Meets Try.prog 85 #[(.map a0)] h_2 fun v8 h_3 =>
 oV (some v8) fun x8 =>
 xRFv Try.prog x8 #[9] (rfAssign Try.f59) (rfBody Try.f59) [(8, x8), (7, (.map a0)), (5, (.pointer (some (⟨b5, 0, none⟩ : Addr)))), (4, (.slice none 0 0)), (3, (.pointer (some (⟨b3, 0, none⟩ : Addr)))), (0, (.map a0)), (1, (.int .i64 a1))] 22 h_3 fun b h_11 =>
 oS (h_11.cell (⟨b5, 0, none⟩ : Addr)) fun x19a x19l x19c =>
 Meets Try.prog 86 #[(.slice x19a x19l x19c)] h_11 fun v20 h_12 =>
 oTup v20 0 fun x20cs =>
 oS (h_12.cell (⟨b5, 0, none⟩ : Addr)) fun x21a x21l x21c =>
 marksOk [b] h_12 ∧
 Q (.slice x21a x21l x21c) (closeM [b] h_12)
theorem P_model_threads_int_eq (a0 : Option Nat) (a1 : Int) (h : PH) (Q : Value → PH → Prop) : dFnR Try.prog Try.f59 A_model_threads_int #[(.map a0), (.int .i64 a1)] h Q = P_model_threads_int a0 a1 h Q := by kernel_rfl
theorem P_model_threads_int_of {a0 : Option Nat} {a1 : Int} {h : PH} {Q : Value → PH → Prop} (x : P_model_threads_int a0 a1 h Q) : Meets Try.prog 59 #[(.map a0), (.int .i64 a1)] h Q :=
  specR_of Try.func59 (by kernel_rfl) ((P_model_threads_int_eq a0 a1 h Q).symm ▸ x)
def AA_model_threads_model_left : Ann := .leaf
def AB_model_threads_model_left : Ann := .block [] (.seq (.leaf) (.cond [] (.leaf) (.leaf)))
/-- A round of futtock/model.threads[futtock/model.left]. -/
def R_model_threads_model_left (y8 : Value) (y7 : Option Nat) (y5 : Addr) (y4 : Option Addr) (y4_1 : Nat) (y4_2 : Nat) (y3 : Addr) (y0 : Option Nat) (y1 : Int) (z0 : Int) (z1 : Int) (r : Loop) (l : Nat) (h : PH) (K : Value → PH → Prop) : Prop :=
 xNew h (.cells #[(.int .i64 0), (.int .i64 0)] 122 (0, 0)) fun b6 h_4 =>
 xSt 2 h_4 (⟨b6, 0, none⟩ : Addr) [(.int .i64 z0), (.int .i64 z1)] fun h_5 =>
 h_5 l = some (.loop r) ∧
 xBlk (fun J_1 =>
 oI .i64 ((h_5.upd l (.loop { r with state := .busy })).cell ((⟨b6, 0, none⟩ : Addr).add 0)) fun x11 =>
 oI .i64 ((h_5.upd l (.loop { r with state := .busy })).cell y3) fun x12 =>
 xIte (x11 == x12) (fun J_2 =>
 oS ((h_5.upd l (.loop { r with state := .busy })).cell y5) fun x14a x14l x14c =>
 oI .i64 ((h_5.upd l (.loop { r with state := .busy })).cell ((⟨b6, 0, none⟩ : Addr).add 1)) fun x16 =>
 xNew (h_5.upd l (.loop { r with state := .busy })) (.cells #[(.int .i64 x16)] 3 (0, 0)) fun b17 h_6 =>
 xApp h_6 3 1 8 x14a x14l x14c (.slice (some (⟨b17, 0, none⟩ : Addr)) 1 1) fun x18a x18l x18c h_7 =>
 xSt 1 h_7 y5 [(.slice x18a x18l x18c)] fun h_8 =>
 J_2 h_8)
 (fun J_2 =>
 J_2 (h_5.upd l (.loop { r with state := .busy })))
 (fun  (h_9 : PH) =>
 J_1 h_9))
 (fun  (h_10 : PH) =>
 h_10 l = some (.loop { r with state := .busy }) ∧ K (.bool true) (h_10.upd l (.loop { r with state := .ready, pending := none })))
theorem R_model_threads_model_left_eq (y8 : Value) (y7 : Option Nat) (y5 : Addr) (y4 : Option Addr) (y4_1 : Nat) (y4_2 : Nat) (y3 : Addr) (y0 : Option Nat) (y1 : Int) (z0 : Int) (z1 : Int) (r : Loop) (l : Nat) (h : PH) (K : Value → PH → Prop) : dCodeI Try.prog (rfAssign Try.f60) AA_model_threads_model_left [(9, (.agg #[(.int .i64 z0), (.int .i64 z1)])), (8, y8), (7, (.map y7)), (5, (.pointer (some y5))), (4, (.slice y4 y4_1 y4_2)), (3, (.pointer (some y3))), (0, (.map y0)), (1, (.int .i64 y1))] h (fun e1 h1 => h1 l = some (.loop r) ∧ dCodeI Try.prog (rfBody Try.f60) AB_model_threads_model_left e1 (h1.upd l (.loop { r with state := .busy })) (fun _ h2 => h2 l = some (.loop { r with state := .busy }) ∧ K (.bool true) (h2.upd l (.loop { r with state := .ready, pending := none }))) (fun _ _ _ => False) (fun _ _ => False)) (fun _ _ _ => False) (fun _ _ => False) = R_model_threads_model_left y8 y7 y5 y4 y4_1 y4_2 y3 y0 y1 z0 z1 r l h K := by kernel_rfl
/-- futtock/model.threads[futtock/model.left] -/
def A_model_threads_model_left : Ann := .seq (.leaf) (.seq (.leaf) (.seq (.seq (.leaf) (.block [] (.leaf))) (.seq (.leaf) (.seq (.leaf) (.leaf)))))
def P_model_threads_model_left (a0 : Option Nat) (a1 : Int) (h : PH) (Q : Value → PH → Prop) : Prop :=
 xNew h (.cells #[(.int .i64 a1)] 3 (0, 0)) fun b3 h_1 =>
 xNew h_1 (.cells #[(.slice none 0 0)] 47 (0, 0)) fun b5 h_2 =>
 Meets Try.prog 87 #[(.map a0)] h_2 fun v8 h_3 =>
 oV (some v8) fun x8 =>
 xRFv Try.prog x8 #[9] (rfAssign Try.f60) (rfBody Try.f60) [(8, x8), (7, (.map a0)), (5, (.pointer (some (⟨b5, 0, none⟩ : Addr)))), (4, (.slice none 0 0)), (3, (.pointer (some (⟨b3, 0, none⟩ : Addr)))), (0, (.map a0)), (1, (.int .i64 a1))] 22 h_3 fun b h_11 =>
 oS (h_11.cell (⟨b5, 0, none⟩ : Addr)) fun x19a x19l x19c =>
 Meets Try.prog 86 #[(.slice x19a x19l x19c)] h_11 fun v20 h_12 =>
 oTup v20 0 fun x20cs =>
 oS (h_12.cell (⟨b5, 0, none⟩ : Addr)) fun x21a x21l x21c =>
 marksOk [b] h_12 ∧
 Q (.slice x21a x21l x21c) (closeM [b] h_12)
theorem P_model_threads_model_left_eq (a0 : Option Nat) (a1 : Int) (h : PH) (Q : Value → PH → Prop) : dFnR Try.prog Try.f60 A_model_threads_model_left #[(.map a0), (.int .i64 a1)] h Q = P_model_threads_model_left a0 a1 h Q := by kernel_rfl
theorem P_model_threads_model_left_of {a0 : Option Nat} {a1 : Int} {h : PH} {Q : Value → PH → Prop} (x : P_model_threads_model_left a0 a1 h Q) : Meets Try.prog 60 #[(.map a0), (.int .i64 a1)] h Q :=
  specR_of Try.func60 (by kernel_rfl) ((P_model_threads_model_left_eq a0 a1 h Q).symm ▸ x)
/-- maps.Keys[map[futtock/model.place]int,futtock/model.place,int] -/
def A_maps_Keys_map_model_place_int_model_place_int : Ann := .seq (.leaf) (.seq (.leaf) (.leaf))
def P_maps_Keys_map_model_place_int_model_place_int (a0 : Option Nat) (h : PH) (Q : Value → PH → Prop) : Prop :=
 xNew h (.cells #[(.map a0)] 42 (0, 0)) fun b1 h_1 =>
 Q (.func (.func 105) #[] #[(.pointer (some (⟨b1, 0, none⟩ : Addr)))]) h_1
theorem P_maps_Keys_map_model_place_int_model_place_int_eq (a0 : Option Nat) (h : PH) (Q : Value → PH → Prop) : dFn Try.prog Try.f85 A_maps_Keys_map_model_place_int_model_place_int #[(.map a0)] h Q = P_maps_Keys_map_model_place_int_model_place_int a0 h Q := by kernel_rfl
theorem P_maps_Keys_map_model_place_int_model_place_int_of {a0 : Option Nat} {h : PH} {Q : Value → PH → Prop} (x : P_maps_Keys_map_model_place_int_model_place_int a0 h Q) : Meets Try.prog 85 #[(.map a0)] h Q :=
  spec_of Try.func85 mix (by kernel_rfl) ((P_maps_Keys_map_model_place_int_model_place_int_eq a0 h Q).symm ▸ x)
/-- maps.Keys[map[futtock/model.place]futtock/model.left,futtock/model.place,futtock/model.left] -/
def A_maps_Keys_map_model_place_model_left_model_place_model_left : Ann := .seq (.leaf) (.seq (.leaf) (.leaf))
def P_maps_Keys_map_model_place_model_left_model_place_model_left (a0 : Option Nat) (h : PH) (Q : Value → PH → Prop) : Prop :=
 xNew h (.cells #[(.map a0)] 43 (0, 0)) fun b1 h_1 =>
 Q (.func (.func 108) #[] #[(.pointer (some (⟨b1, 0, none⟩ : Addr)))]) h_1
theorem P_maps_Keys_map_model_place_model_left_model_place_model_left_eq (a0 : Option Nat) (h : PH) (Q : Value → PH → Prop) : dFn Try.prog Try.f87 A_maps_Keys_map_model_place_model_left_model_place_model_left #[(.map a0)] h Q = P_maps_Keys_map_model_place_model_left_model_place_model_left a0 h Q := by kernel_rfl
theorem P_maps_Keys_map_model_place_model_left_model_place_model_left_of {a0 : Option Nat} {h : PH} {Q : Value → PH → Prop} (x : P_maps_Keys_map_model_place_model_left_model_place_model_left a0 h Q) : Meets Try.prog 87 #[(.map a0)] h Q :=
  spec_of Try.func87 mix (by kernel_rfl) ((P_maps_Keys_map_model_place_model_left_model_place_model_left_eq a0 h Q).symm ▸ x)
end Go.Proofs.Ytnnedfhpicdacaa

/- The library's sort at this program: its functions and types are those of the shelf's structure (lines printed by wip/tools/laylines.py). -/
namespace Go.Proofs.Ytnnedfhpicdacaa
open Go Go.Proofs
def srt_ren : Go.Shelf.Ren := ⟨fun | 189 => 86 | 125 => 107 | 257 => 106 | 128 => 120 | 129 => 121 | 294 => 111 | 295 => 112 | 296 => 113 | 297 => 114 | 298 => 115 | 299 => 116 | 216 => 117 | 300 => 118 | 301 => 119 | 328 => 122 | 329 => 123 | 330 => 124 | 331 => 125 | 332 => 126 | 215 => 127 | 343 => 128 | n => n, fun | 28 => 47 | 3 => 3 | 46 => 167 | 0 => 0 | 51 => 186 | 53 => 188 | 4 => 4 | 183 => 179 | 182 => 178 | 131 => 67 | 5 => 5 | 9 => 9 | 218 => 189 | 222 => 193 | 228 => 195 | 229 => 196 | n => n, fun n => n⟩
set_option maxRecDepth 100000 in
theorem srt : Lays.n189 Try.prog srt_ren where
  mixed := by kernel_rfl
  f125 := Try.func107.trans (congrArg some (by kernel_rfl))
  f128 := Try.func120.trans (congrArg some (by kernel_rfl))
  f129 := Try.func121.trans (congrArg some (by kernel_rfl))
  f189 := Try.func86.trans (congrArg some (by kernel_rfl))
  f215 := Try.func127.trans (congrArg some (by kernel_rfl))
  f216 := Try.func117.trans (congrArg some (by kernel_rfl))
  f257 := Try.func106.trans (congrArg some (by kernel_rfl))
  f294 := Try.func111.trans (congrArg some (by kernel_rfl))
  f295 := Try.func112.trans (congrArg some (by kernel_rfl))
  f296 := Try.func113.trans (congrArg some (by kernel_rfl))
  f297 := Try.func114.trans (congrArg some (by kernel_rfl))
  f298 := Try.func115.trans (congrArg some (by kernel_rfl))
  f299 := Try.func116.trans (congrArg some (by kernel_rfl))
  f300 := Try.func118.trans (congrArg some (by kernel_rfl))
  f301 := Try.func119.trans (congrArg some (by kernel_rfl))
  f328 := Try.func122.trans (congrArg some (by kernel_rfl))
  f329 := Try.func123.trans (congrArg some (by kernel_rfl))
  f330 := Try.func124.trans (congrArg some (by kernel_rfl))
  f331 := Try.func125.trans (congrArg some (by kernel_rfl))
  f332 := Try.func126.trans (congrArg some (by kernel_rfl))
  f343 := Try.func128.trans (congrArg some (by kernel_rfl))
  t0 := Try.underlying0
  a0 := Try.isAgg0
  z0 := Try.sizeOf0
  v0 := Try.zeroValue0
  t3 := Try.underlying3
  a3 := Try.isAgg3
  z3 := Try.sizeOf3
  v3 := Try.zeroValue3
  t4 := Try.underlying4
  a4 := Try.isAgg4
  z4 := Try.sizeOf4
  v4 := Try.zeroValue4
  t5 := Try.underlying5
  a5 := Try.isAgg5
  z5 := Try.sizeOf5
  v5 := Try.zeroValue5
  t9 := Try.underlying9
  a9 := Try.isAgg9
  z9 := Try.sizeOf9
  v9 := Try.zeroValue9
  t28 := Try.underlying47
  a28 := Try.isAgg47
  z28 := Try.sizeOf47
  v28 := Try.zeroValue47
  t46 := Try.underlying167
  a46 := Try.isAgg167
  z46 := Try.sizeOf167
  v46 := Try.zeroValue167
  t51 := Try.underlying186
  a51 := Try.isAgg186
  z51 := Try.sizeOf186
  v51 := Try.zeroValue186
  t53 := Try.underlying188
  a53 := Try.isAgg188
  z53 := Try.sizeOf188
  v53 := Try.zeroValue188
  t131 := Try.underlying67
  a131 := Try.isAgg67
  z131 := Try.sizeOf67
  v131 := Try.zeroValue67
  t182 := Try.underlying178
  a182 := Try.isAgg178
  z182 := Try.sizeOf178
  v182 := Try.zeroValue178
  t183 := Try.underlying179
  a183 := Try.isAgg179
  z183 := Try.sizeOf179
  v183 := Try.zeroValue179
  t218 := Try.underlying189
  a218 := Try.isAgg189
  z218 := Try.sizeOf189
  v218 := Try.zeroValue189
  t222 := Try.underlying193
  a222 := Try.isAgg193
  z222 := Try.sizeOf193
  v222 := Try.zeroValue193
  t228 := Try.underlying195
  a228 := Try.isAgg195
  z228 := Try.sizeOf195
  v228 := Try.zeroValue195
  t229 := Try.underlying196
  a229 := Try.isAgg196
  z229 := Try.sizeOf196
  v229 := Try.zeroValue196
end Go.Proofs.Ytnnedfhpicdacaa

/-
  slices.Sort at []int, as a contract over what is known of memory.
-/
set_option linter.unusedVariables false
namespace Go.Sx
open Go Go.Proofs Go.Proofs.Ytnnedfhpicdacaa

/-- Integers in a row, and what lies behind them. -/
def intArr (l : List Int) (junk : List Value) : Array Value := (l.map (Value.int .i64) ++ junk).toArray
theorem intArr_size (l : List Int) (junk : List Value) : (intArr l junk).size = l.length + junk.length := by simp [intArr]
theorem intArr_get {l : List Int} {junk : List Value} {n : Nat} (h : n < l.length) : (intArr l junk)[n]? = some (.int .i64 l[n]) := by
  simp [intArr, List.getElem?_append_left, h]
def sortI (l : List Int) : List Int := l.mergeSort fun x y => decide (x ≤ y)
theorem sortI_length (l : List Int) : (sortI l).length = l.length := by simp [sortI]

/-- A slice of integers of one's own. -/
def IntsIn (h : PH) (p : Option Addr) (n c : Nat) (l : List Int) (S : List Nat) : Prop :=
  n = l.length ∧ ((l = [] ∧ p = none ∧ c = 0 ∧ S = []) ∨ ∃ b junk, p = some ⟨b, 0, none⟩ ∧ h b = some (.cells (intArr l junk) 3 (0, 0)) ∧ l.length ≤ c ∧ junk.length = c - l.length ∧ S = [b])
theorem IntsIn.nil (h : PH) : IntsIn h none 0 0 [] [] := ⟨rfl, .inl ⟨rfl, rfl, rfl, rfl⟩⟩
theorem IntsIn.of {h h' : PH} {p : Option Addr} {n c : Nat} {l : List Int} {S : List Nat} (i : IntsIn h p n c l S) (e : ∀ b ∈ S, h' b = h b) : IntsIn h' p n c l S := by
  obtain ⟨rfl, ⟨a, b, c, d⟩ | ⟨b, junk, a, d, e1, f, g⟩⟩ := i
  · exact ⟨rfl, .inl ⟨a, b, c, d⟩⟩
  · exact ⟨rfl, .inr ⟨b, junk, a, (e b (by simp [g])).trans d, e1, f, g⟩⟩
theorem IntsIn.known {h : PH} {p : Option Addr} {n c : Nat} {l : List Int} {S : List Nat} (i : IntsIn h p n c l S) : ∀ b ∈ S, h b ≠ none := by
  obtain ⟨rfl, ⟨a, b, c, d⟩ | ⟨b, junk, a, d, e1, f, g⟩⟩ := i
  · intro b hb; subst d; cases hb
  · intro x hx; subst g; simp only [List.mem_singleton] at hx; subst hx; rw [d]; simp
theorem IntsIn.app {h : PH} {p : Option Addr} {n c : Nat} {l : List Int} {S : List Nat} {sb : Nat} {x : Int} {K : Option Addr → Nat → Nat → PH → Prop} (i : IntsIn h p n c l S) (hs : h sb = some (.cells #[.int .i64 x] 3 (0, 0))) (hl : l.length ≤ 1000000)
    (k : ∀ p' n' c' h' S', IntsIn h' p' n' c' (l ++ [x]) S' → Ext S h h' → (∀ b ∈ S', b ∈ S ∨ h b = none) → K p' n' c' h') : xApp h 3 1 8 p n c (.slice (some ⟨sb, 0, none⟩) 1 1) K := by
  have src : srcCells h 1 (.slice (some ⟨sb, 0, none⟩) 1 1) [.int .i64 x] 1 := by
    refine ⟨rfl, rfl, fun i hi => ?_⟩
    have : i = 0 := by omega
    subst this
    rw [add_mk, cellAt hs]; rfl
  obtain ⟨rfl, ⟨rfl, rfl, rfl, rfl⟩ | ⟨b, junk, rfl, hb, hc, hj, rfl⟩⟩ := i
  · refine ⟨_, 1, src, by simp [oneCell], by simp, rfl, rfl, fun h => absurd h (by decide), fun _ b cap' junk nb hc hj => ?_⟩
    refine k _ _ _ _ [b] ⟨rfl, .inr ⟨b, junk, rfl, PH.upd_same _ _ _, hc, by simpa using hj, rfl⟩⟩ ((Ext.refl [] h).upd_new nb) (fun y hy => ?_)
    simp only [List.mem_singleton] at hy
    subst hy; exact .inr nb
  · refine ⟨_, 1, src, by simp [oneCell], by omega, l.map (Value.int .i64), junk, rfl, hb, by simp, by omega, hc, fun b' cap' junk' nb hc' hj' => ?_⟩
    refine k _ _ _ _ [b'] ⟨by simp, .inr ⟨b', junk', rfl, ?_, by simpa using hc', by simpa using hj', rfl⟩⟩ ?_ ?_
    · rw [PH.upd_same]
      simp [intArr]
    · intro y O hy hm
      have h1 : y ≠ b := fun e => hm (by simp [e])
      by_cases e : y = b'
      · subst e
        rw [del_at, if_neg h1] at nb
        rw [nb] at hy; cases hy
      · rw [PH.upd_ne _ _ e, del_at, if_neg h1]; exact hy
    · intro y hy
      simp only [List.mem_singleton] at hy
      subst hy
      rw [del_at] at nb
      split at nb
      · rename_i e; exact .inl (by simp [e])
      · exact .inr nb

theorem putCells_intArr (l l' : List Int) (junk : List Value) (h : l'.length = l.length) : Sort.putCells (Value.int .i64) 0 l'.toArray (intArr l junk) = intArr l' junk := by
  apply Array.ext_getElem?
  intro k
  simp only [Sort.putCells, Array.getElem?_mapIdx]
  by_cases hk : k < l'.length
  · rw [intArr_get (by omega), intArr_get hk]
    simp [hk]
  · have e1 : (intArr l junk)[k]? = (intArr l' junk)[k]? := by
      simp only [intArr, List.getElem?_toArray]
      rw [List.getElem?_append_right (by simp; omega), List.getElem?_append_right (by simp; omega)]
      simp [h]
    rw [e1]
    cases (intArr l' junk)[k]? with
    | none => rfl
    | some x => simp [hk]

theorem meets_sort {h : PH} {b : Nat} {l : List Int} {junk : List Value} {el : TypeId} (c : Nat) (hb : h b = some (.cells (intArr l junk) el (0, 0))) (hl : l.length < 4611686018427387904) :
    Meets Try.prog 86 #[.slice (some ⟨b, 0, none⟩) l.length c] h fun v h' => v = .tuple #[] ∧ h' = h.upd b (.cells (intArr (sortI l) junk) el (0, 0)) := by
  intro W w st
  have hw := st.sh _ _ hb
  have hlt : b < w.heap.size := (Array.getElem?_eq_some_iff.1 hw).1
  have hH : Sort.Holds (Value.int .i64) w b 0 l.toArray := by
    intro j hj
    simp only [List.size_toArray] at hj
    refine ⟨?_, ?_⟩
    · unfold World.cell?
      rw [hw]
      simp [intArr_get hj, hj]
    · unfold World.frozen?
      rw [hw]
      simp
  refine (Any.slices_Sort_int srt b 0 c l w hH hlt hl).mono ?_
  rintro e w' ⟨rfl, n, os, rfl⟩
  refine ⟨_, _, rfl, ⟨⟨st.q.os, st.q.tape, st.q.output⟩, fun x O hx => ?_⟩, rfl, rfl⟩
  show ((w.heap.modify b (Sort.onCells _)) ++ os)[x]? = some O
  rw [upd_at] at hx
  split at hx
  · rename_i e; subst e
    simp only [Option.some.injEq] at hx
    subst hx
    rw [Array.getElem?_append_left (by simpa using hlt)]
    rw [Array.getElem?_modify, if_pos rfl, hw]
    simp only [Option.map_some, Sort.onCells]
    exact congrArg (fun c => some (Obj.cells c el (0, 0))) (putCells_intArr l (sortI l) junk (sortI_length l))
  · rename_i e
    have h2 := st.sh _ _ hx
    have hlt2 : x < w.heap.size := (Array.getElem?_eq_some_iff.1 h2).1
    rw [Array.getElem?_append_left (by simpa using hlt2), Array.getElem?_modify, if_neg (fun y => e y.symm)]
    exact h2

theorem meets_sort_nil {h : PH} (p : Option Addr) (c : Nat) : Meets Try.prog 86 #[.slice p 0 c] h fun v h' => v = .tuple #[] ∧ h' = h := by
  intro W w st
  refine (Any.slices_Sort_int_none srt p c w).mono ?_
  rintro e w' ⟨rfl, rfl⟩
  exact ⟨_, _, rfl, st, rfl, rfl⟩

end Go.Sx

/-
  The model's functions that only look.
-/
set_option linter.unusedSimpArgs false
set_option linter.unusedVariables false
namespace Go.Md
open Go Go.Sx Go.Proofs Go.Proofs.Ytnnedfhpicdacaa

def evV (e : Ev) : Value := .agg #[.int .i64 e.kind, .int .i64 e.thread, .int .i64 e.obj, .int .i64 e.arg, .int .i64 e.err]
def mp (L : ML) : Value := .pointer (some ⟨L.m, 0, none⟩)

theorem wrap_len {n : Nat} (h : n ≤ 8) : IntKind.wrap .i64 ((n : Int) - 1) = (n : Int) - 1 := wrap64_id (by omega) (by omega)

theorem meets_in {h : PH} (a b c : Int) : Meets Try.prog 45 #[.int .i64 a, .int .i64 b, .int .i64 c] h fun v h' => v = .bool (decide (b ≤ a) && decide (a ≤ c)) ∧ h' = h := by
  apply P_model_in_of
  unfold P_model_in
  exact xSc_and _ (fun _ J hJ => hJ) ⟨rfl, rfl⟩

theorem meets_ok {h : PH} {L : ML} {s : Ms} (r : MRep h L s) : Meets Try.prog 46 #[mp L] h fun v h' => v = .bool true ∧ h' = h := by
  obtain ⟨c, c', cm⟩ := r.cm
  apply P_model_Model_ok_of
  unfold P_model_Model_ok
  refine xSc_and true (fun _ J hJ => ?_) ⟨rfl, rfl⟩
  simp only [xNn_some, add_mk, cell_mk, cm]
  exact ⟨_, rfl, hJ⟩
theorem meets_ok_nil {h : PH} : Meets Try.prog 46 #[.pointer none] h fun v h' => v = .bool false ∧ h' = h := by
  apply P_model_Model_ok_of
  unfold P_model_Model_ok
  exact xSc_and true (fun hb => by cases hb) ⟨rfl, rfl⟩

theorem meets_isThread {h : PH} {L : ML} {s : Ms} (r : MRep h L s) (t : Int) : Meets Try.prog 57 #[mp L, .int .i64 t] h fun v h' => v = .bool (s.isThread t) ∧ h' = h := by
  obtain ⟨c, c', cm⟩ := r.cm
  apply P_model_Model_isThread_of
  unfold P_model_Model_isThread
  simp only [xNn_some, add_mk, cell_mk, upd_at, del_at, if_true, if_false, Option.bind_some, List.getElem?_toArray, List.getElem?_cons_succ, List.getElem?_cons_zero, oI_some, oS_some, oM_some, oB_some, oP_some, oT_some, xIdx_some, Nat.zero_add, Nat.add_zero, Nat.mul_one, cm, wrap_len r.nf]
  refine (meets_in _ _ _).look ?_
  exact ⟨_, rfl, rfl, rfl⟩

/-- What is known of an event's object. -/
structure OIn (s : Ms) (o : Int) : Prop where
  h0 : 0 ≤ o
  h1 : o.toNat < s.mons.length
theorem OIn.lt {s : Ms} {o : Int} (x : OIn s o) : o < (s.mons.length : Int) := by have := x.h0; have := x.h1; omega

theorem meets_owns {h : PH} {L : ML} {s : Ms} (r : MRep h L s) (e : Ev) (ho : OIn s e.obj) : Meets Try.prog 104 #[mp L, evV e] h fun v h' => v = .bool (s.owns e) ∧ h' = h := by
  apply Meets.same
  apply P_model_Model_owns_of
  unfold P_model_Model_owns
  intro b hb
  obtain ⟨d1, d2, d3, d4, d5⟩ := r.off hb
  obtain ⟨c, c', cm⟩ := r.cm
  obtain ⟨j, co⟩ := r.co
  refine xDraw_self ?_
  simp only [xNn_some, add_mk, cell_mk, upd_at, del_at, if_true, if_false, Option.bind_some, List.getElem?_toArray, List.getElem?_cons_succ, List.getElem?_cons_zero, oI_some, oS_some, oM_some, oB_some, oP_some, oT_some, xIdx_some, Nat.zero_add, Nat.add_zero, Nat.mul_one, d1, d2, cm, co, moArr_0 ho.h1]
  exact ⟨ho.h0, ho.lt, rfl, PH.le_upd hb⟩

theorem meets_others {h : PH} {L : ML} {s : Ms} (r : MRep h L s) (e : Ev) (ho : OIn s e.obj) : Meets Try.prog 103 #[mp L, evV e] h fun v h' => v = .bool (s.others e) ∧ h' = h := by
  apply Meets.same
  apply P_model_Model_others_of
  unfold P_model_Model_others
  intro b hb
  obtain ⟨d1, d2, d3, d4, d5⟩ := r.off hb
  obtain ⟨c, c', cm⟩ := r.cm
  obtain ⟨j, co⟩ := r.co
  refine xDraw_self ?_
  simp only [xNn_some, add_mk, cell_mk, upd_at, del_at, if_true, if_false, Option.bind_some, List.getElem?_toArray, List.getElem?_cons_succ, List.getElem?_cons_zero, oI_some, oS_some, oM_some, oB_some, oP_some, oT_some, xIdx_some, Nat.zero_add, Nat.add_zero, Nat.mul_one]
  refine (meets_owns (r.new hb) e ho).look ?_
  simp only [xNn_some, add_mk, cell_mk, upd_at, del_at, if_true, if_false, Option.bind_some, List.getElem?_toArray, List.getElem?_cons_succ, List.getElem?_cons_zero, oI_some, oS_some, oM_some, oB_some, oP_some, oT_some, xIdx_some, Nat.zero_add, Nat.add_zero, Nat.mul_one, d1, d2, cm, co, moArr_0 ho.h1]
  refine ⟨PH.le_refl _, xSc_and ((s.mon e.obj).owner != -1) (fun _ J hJ => ⟨ho.h0, ho.lt, hJ⟩) ⟨rfl, PH.le_upd hb⟩⟩

theorem zero2 : Option.getD (none : Option Value) (.agg #[.int .i64 0, .int .i64 0]) = .agg #[.int .i64 0, .int .i64 0] := rfl

/-- What is read of a place that is looked up. -/
theorem look_int {o : Option Int} {K : Int → Prop} (k : K (o.getD 0)) : oI .i64 (some (Option.getD (o.map encI) (.int .i64 0))) K := by
  cases o <;> exact ⟨_, rfl, k⟩
theorem look_left {o : Option (Int × Int)} {K : Int → Int → Prop} (k : K (o.getD (0, 0)).1 (o.getD (0, 0)).2) :
    oAgg (Option.getD (o.map encL) (.agg #[.int .i64 0, .int .i64 0])) 2 fun cs => oI .i64 cs[0]? fun a => oI .i64 cs[1]? fun b => oAgg (.agg #[.int .i64 a, .int .i64 b]) 2 fun cs => oI .i64 cs[0]? fun a => oI .i64 cs[1]? fun b => K a b := by
  cases o <;> exact ⟨_, rfl, rfl, _, rfl, _, rfl, _, rfl, rfl, _, rfl, _, rfl, k⟩

theorem gone_eq (s : Ms) (t : Int) (n : Nat) (hn : n = s.mons.length) (h : ∀ o, o < n → ((s.waits.find o t).isSome || (s.left.find o t).isSome) = false) : s.gone t = false := by
  subst hn
  unfold Ms.gone
  rw [List.any_eq_false]
  intro o ho
  rw [h o (by simpa using ho)]; simp
theorem gone_eq_true (s : Ms) (t : Int) (o : Nat) (ho : o < s.mons.length) (h : ((s.waits.find o t).isSome || (s.left.find o t).isSome) = true) : s.gone t = true := by
  unfold Ms.gone
  rw [List.any_eq_true]
  exact ⟨o, by simpa using ho, h⟩

theorem meets_gone {h : PH} {L : ML} {s : Ms} (r : MRep h L s) (t : Int) : Meets Try.prog 76 #[mp L, .int .i64 t] h fun v h' => v = .bool (s.gone t) ∧ h' = h := by
  apply Meets.same
  apply P_model_Model_gone_of
  unfold P_model_Model_gone
  obtain ⟨c, c', cm⟩ := r.cm
  simp only [xNn_some, add_mk, cell_mk, upd_at, del_at, if_true, if_false, Option.bind_some, List.getElem?_toArray, List.getElem?_cons_succ, List.getElem?_cons_zero, oI_some, oS_some, oM_some, oB_some, oP_some, oT_some, xIdx_some, Nat.zero_add, Nat.add_zero, Nat.mul_one, cm]
  have hl := r.nm
  refine xLoop1 (fun (x : Int) h' => h.le h' ∧ 0 ≤ x ∧ x ≤ s.mons.length ∧ ∀ o : Nat, (o : Int) < x → ((s.waits.find o t).isSome || (s.left.find o t).isSome) = false) (fun x _ => ((s.mons.length : Int) - x).toNat) ?_ ⟨PH.le_refl h, by omega, by omega, fun o ho => by omega⟩
  intro J x h1 ⟨l1, h0, hx, hall⟩ hJ
  refine ⟨fun hc => ?_, fun hc => ?_⟩
  · have hc := of_decide_eq_true hc
    have r1 := r.le l1
    have cm1 := l1 _ _ cm
    simp only [xBlk, xNn_some, add_mk, cell_mk, upd_at, del_at, if_true, if_false, Option.bind_some, List.getElem?_toArray, List.getElem?_cons_succ, List.getElem?_cons_zero, oI_some, oS_some, oM_some, oB_some, oP_some, oT_some, xIdx_some, Nat.zero_add, Nat.add_zero, Nat.mul_one, cm1]
    refine look_rep r1.cw x t ?_
    refine look_int ?_
    refine look_rep r1.cl x t ?_
    refine look_left ?_
    intro b hb
    refine xSt_mk (PH.upd_same _ _ _) rfl (by decide) (by simp [oneCell]) (by decide) ?_
    rw [PH.upd_upd]
    have e1 : x = ((x.toNat : Nat) : Int) := by omega
    refine xSc_or _ (fun _ J hJ => hJ) ⟨fun hb' => ⟨?_, PH.le_trans l1 (PH.le_upd hb)⟩, fun hb' => ?_⟩
    · congr 1
      refine (gone_eq_true s t x.toNat (by omega) ?_).symm
      rw [← e1]; simpa using hb'
    · have hw : IntKind.wrap .i64 (x + 1) = x + 1 := wrap64_id (by omega) (by omega)
      rw [hw]
      refine hJ _ _ ⟨PH.le_trans l1 (PH.le_upd hb), by omega, by omega, fun o ho => ?_⟩ (by omega)
      by_cases ho' : (o : Int) < x
      · exact hall o ho'
      · have : (o : Int) = x := by omega
        rw [this]; simpa using hb'
  · have hc := of_decide_eq_false hc
    exact ⟨congrArg Value.bool (gone_eq s t s.mons.length rfl fun o ho => hall o (by omega)).symm, l1⟩

theorem meets_may {h : PH} {L : ML} {s : Ms} (r : MRep h L s) (e : Ev) : Meets Try.prog 51 #[mp L, evV e] h fun v h' => v = .bool (s.may e) ∧ h' = h := by
  apply Meets.same
  apply P_model_Model_may_of
  unfold P_model_Model_may
  intro b hb
  obtain ⟨d1, d2, d3, d4, d5⟩ := r.off hb
  obtain ⟨c, c', cm⟩ := r.cm
  have r1 := r.new (O := .cells #[.int .i64 e.kind, .int .i64 e.thread, .int .i64 e.obj, .int .i64 e.arg, .int .i64 e.err] 33 (0, 0)) hb
  refine xDraw_self ?_
  refine (meets_ok r1).look ?_
  simp only [xNn_some, add_mk, cell_mk, upd_at, del_at, if_true, if_false, Option.bind_some, List.getElem?_toArray, List.getElem?_cons_succ, List.getElem?_cons_zero, oI_some, oS_some, oM_some, oB_some, oP_some, oT_some, xIdx_some, Nat.zero_add, Nat.add_zero, Nat.mul_one]
  refine ⟨PH.le_refl _, xSc_and (s.isThread e.thread) (fun _ J hJ => ?_) ?_⟩
  · refine (meets_isThread r1 e.thread).look ?_
    simp only [xNn_some, add_mk, cell_mk, upd_at, del_at, if_true, if_false, Option.bind_some, List.getElem?_toArray, List.getElem?_cons_succ, List.getElem?_cons_zero, oI_some, oS_some, oM_some, oB_some, oP_some, oT_some, xIdx_some, Nat.zero_add, Nat.add_zero, Nat.mul_one]
    exact ⟨PH.le_refl _, hJ⟩
  refine xSc_and (s.isObj e.obj) (fun _ J hJ => ?_) ?_
  · simp only [xNn_some, add_mk, cell_mk, upd_at, del_at, if_true, if_false, Option.bind_some, List.getElem?_toArray, List.getElem?_cons_succ, List.getElem?_cons_zero, oI_some, oS_some, oM_some, oB_some, oP_some, oT_some, xIdx_some, Nat.zero_add, Nat.add_zero, Nat.mul_one, d1, cm, wrap_len r.nm]
    refine (meets_in _ _ _).look ?_
    simp only [xNn_some, add_mk, cell_mk, upd_at, del_at, if_true, if_false, Option.bind_some, List.getElem?_toArray, List.getElem?_cons_succ, List.getElem?_cons_zero, oI_some, oS_some, oM_some, oB_some, oP_some, oT_some, xIdx_some, Nat.zero_add, Nat.add_zero, Nat.mul_one]
    exact ⟨PH.le_refl _, hJ⟩
  refine xSc_and (e.kind == 5 || e.kind == 6 || !s.gone e.thread) (fun _ J hJ => ?_) ⟨by simp [Ms.may, Bool.and_assoc], PH.le_upd hb⟩
  simp only [xNn_some, add_mk, cell_mk, upd_at, del_at, if_true, if_false, Option.bind_some, List.getElem?_toArray, List.getElem?_cons_succ, List.getElem?_cons_zero, oI_some, oS_some, oM_some, oB_some, oP_some, oT_some, xIdx_some, Nat.zero_add, Nat.add_zero, Nat.mul_one]
  refine xSc_or (e.kind == 6) (fun _ J hJ => hJ) ?_
  refine xSc_or (!s.gone e.thread) (fun _ J hJ => ?_) hJ
  simp only [xNn_some, add_mk, cell_mk, upd_at, del_at, if_true, if_false, Option.bind_some, List.getElem?_toArray, List.getElem?_cons_succ, List.getElem?_cons_zero, oI_some, oS_some, oM_some, oB_some, oP_some, oT_some, xIdx_some, Nat.zero_add, Nat.add_zero, Nat.mul_one]
  refine (meets_gone r1 e.thread).look ?_
  simp only [xNn_some, add_mk, cell_mk, upd_at, del_at, if_true, if_false, Option.bind_some, List.getElem?_toArray, List.getElem?_cons_succ, List.getElem?_cons_zero, oI_some, oS_some, oM_some, oB_some, oP_some, oT_some, xIdx_some, Nat.zero_add, Nat.add_zero, Nat.mul_one]
  exact hJ

end Go.Md

/-
  The threads of places, rising: Waiters, Left.
-/
set_option linter.unusedSimpArgs false
set_option linter.unusedVariables false
namespace Go.Md
open Go Go.Sx Go.Proofs Go.Proofs.Ytnnedfhpicdacaa

def keyPair : Value → Int × Int
  | .agg ⟨[.int _ p, .int _ q]⟩ => (p, q)
  | _ => (0, 0)
/-- The threads of entries at an object. -/
def thrE (o : Int) (v : List MapEntry) : List Int := ((v.map fun e => keyPair e.key).filter fun p => p.1 == o).map (·.2)
def thrP {α : Type} (o : Int) (l : Pl α) : List Int := (l.filter fun p => p.1 == o).map (·.2.1)

theorem thrE_snoc (o : Int) (v : List MapEntry) (e : MapEntry) : thrE o (v ++ [e]) = thrE o v ++ (if (keyPair e.key).1 = o then [(keyPair e.key).2] else []) := by
  unfold thrE
  simp only [List.map_append, List.filter_append, List.map_cons, List.map_nil, List.filter_cons, List.filter_nil]
  by_cases h : (keyPair e.key).1 = o <;> simp [h]
theorem thrE_len (o : Int) (v : List MapEntry) : (thrE o v).length ≤ v.length := by
  unfold thrE
  rw [List.length_map]
  exact Nat.le_trans (List.length_filter_le _ _) (by simp)
theorem thrE_ents {α : Type} {enc : α → Value} {es : List MapEntry} {l : Pl α} (h : Ents enc es l) (o : Int) : thrE o es = thrP o l := by
  have e1 : es.map (fun e => keyPair (MapEntry.key e)) = l.map fun p => (p.1, p.2.1) := by
    have := congrArg (List.map fun x : Value × Value => keyPair x.1) h
    simpa [List.map_map, Function.comp_def, key2, keyPair] using this
  unfold thrE thrP
  rw [e1, List.filter_map, List.map_map]
  rfl
theorem thrE_perm (o : Int) {v w : List MapEntry} (h : v.Perm w) : (thrE o v).Perm (thrE o w) := ((h.map _).filter _).map _

theorem sortI_perm {l m : List Int} (h : l.Perm m) : sortI l = sortI m := by
  have tot : ∀ a b : Int, (decide (a ≤ b) || decide (b ≤ a)) = true := fun a b => by simp; omega
  have tr : ∀ a b c : Int, decide (a ≤ b) = true → decide (b ≤ c) = true → decide (a ≤ c) = true := fun a b c => by simp; omega
  have p1 := List.mergeSort_perm l fun x y => decide (x ≤ y)
  have p2 := List.mergeSort_perm m fun x y => decide (x ≤ y)
  have s1 := List.pairwise_mergeSort tr tot l
  have s2 := List.pairwise_mergeSort tr tot m
  unfold sortI
  refine List.Perm.eq_of_pairwise (le := fun a b : Int => decide (a ≤ b) = true) ?_ s1 s2 (p1.trans (h.trans p2.symm))
  intro a b _ _ h1 h2
  simp at h1 h2; omega

theorem perm_of_once {α : Type} {v w : List α} (h1 : v.Nodup) (h2 : w.Nodup) (h : ∀ e, e ∈ w ↔ e ∈ v) : v.Perm w := by
  classical
  exact (List.perm_ext_iff_of_nodup h1 h2).2 fun a => (h a).symm

theorem Stamps.nodup {es : List MapEntry} {cl : Nat} (s : Stamps es cl) : es.Nodup := by
  have := s.nd
  exact List.Pairwise.of_map _ (fun a b hne e => hne (by rw [e])) this

/-- Integers told. -/
def IntsAt (h0 h : PH) (v : Value) (l : List Int) : Prop := ∃ p n c S, v = .slice p n c ∧ IntsIn h p n c l S ∧ h0.le h ∧ ∀ b ∈ S, h0 b = none

section
variable (o : Int) (b3 b5 bd l : Nat) (r0 : Loop)
/-- What the one who ranges has. -/
def ThrI (v : List MapEntry) (S : List Nat) (h : PH) : Prop :=
  h b3 = some (.cells #[.int .i64 o] 3 (0, 0)) ∧ h bd = some (.deferred (some [])) ∧ h l = some (.loop r0) ∧ ∃ p n c T, h b5 = some (.cells #[.slice p n c] 47 (0, 0)) ∧ IntsIn h p n c (thrE o v) T ∧ S = [b3, b5, bd, l] ++ T ∧ (∀ x ∈ T, x ∉ [b3, b5, bd, l])
end
theorem thrI_kept (o : Int) (b3 b5 bd l : Nat) (r0 : Loop) : Kept (ThrI o b3 b5 bd l r0) := by
  constructor
  · rintro v S h h' ⟨e3, ed, el, p, n, c, T, e5, i, rfl, d⟩ hk
    refine ⟨(hk _ (by simp)).trans e3, (hk _ (by simp)).trans ed, (hk _ (by simp)).trans el, p, n, c, T, (hk _ (by simp)).trans e5, i.of fun b hb => hk _ (by simp [hb]), rfl, d⟩
  · rintro v S h ⟨e3, ed, el, p, n, c, T, e5, i, rfl, d⟩ b hb
    rcases List.mem_append.1 hb with hb | hb
    · simp only [List.mem_cons, List.not_mem_nil, or_false] at hb
      rcases hb with rfl | rfl | rfl | rfl
      · rw [e3]; simp
      · rw [e5]; simp
      · rw [ed]; simp
      · rw [el]; simp
    · exact i.known b hb

theorem nd4 {a b c d : Nat} (h : [a, b, c, d].Nodup) : a ≠ b ∧ a ≠ c ∧ a ≠ d ∧ b ≠ c ∧ b ≠ d ∧ c ≠ d := by
  simp only [List.nodup_cons, List.mem_cons, List.not_mem_nil, or_false, not_or, not_false_eq_true, List.nodup_nil, and_true] at h
  obtain ⟨⟨a, b, c⟩, ⟨d, e⟩, f⟩ := h
  exact ⟨a, b, c, d, e, f⟩

theorem thr_round {o p q : Int} {b3 b5 bd l : Nat} {r0 : Loop} (nd : [b3, b5, bd, l].Nodup) (hr : r0.state = .ready) (hp : r0.pending = none) {v : List MapEntry} {S : List Nat} {h1 : PH} {e : MapEntry} (hI : ThrI o b3 b5 bd l r0 v S h1) (hk : e.key = key2 p q) (few : v.length ≤ 1000000)
    (y8 : Value) (y7 y0 : Option Nat) (y4 : Option Addr) (y41 y42 : Nat) :
    R_model_threads_int y8 y7 ⟨b5, 0, none⟩ y4 y41 y42 ⟨b3, 0, none⟩ y0 o p q r0 l h1 fun r h2 => r = .bool true ∧ ∃ S', ThrI o b3 b5 bd l r0 (v ++ [e]) S' h2 ∧ Ext S h1 h2 ∧ ∀ b ∈ S', b ∈ S ∨ h1 b = none := by
  obtain ⟨n35, n3d, n3l, n5d, n5l, ndl⟩ := nd4 nd
  obtain ⟨e3, ed, el, sp, sn, sc, T, e5, i, rfl, dj⟩ := hI
  have kp : keyPair e.key = (p, q) := by rw [hk]; rfl
  unfold R_model_threads_int
  intro b6 n6
  refine xSt_mk (PH.upd_same _ _ _) rfl (by decide) (by simp [oneCell]) (by simp) ?_
  rw [PH.upd_upd, setN2]
  have l5 := PH.le_upd (O := .cells #[.int .i64 p, .int .i64 q] 122 (0, 0)) n6
  have e6 := PH.upd_same h1 b6 (.cells #[.int .i64 p, .int .i64 q] 122 (0, 0))
  generalize h1.upd b6 (.cells #[.int .i64 p, .int .i64 q] 122 (0, 0)) = h5 at l5 e6 ⊢
  have f3 := l5 _ _ e3
  have fd := l5 _ _ ed
  have fl := l5 _ _ el
  have f5 := l5 _ _ e5
  have n6l : b6 ≠ l := fun h => by subst h; rw [n6] at el; cases el
  have n63 : b6 ≠ b3 := fun h => by subst h; rw [n6] at e3; cases e3
  have n65 : b6 ≠ b5 := fun h => by subst h; rw [n6] at e5; cases e5
  have iT : ∀ x ∈ T, x ≠ b6 ∧ x ≠ l ∧ x ≠ b5 := by
    intro x hx
    have := dj x hx
    simp only [List.mem_cons, List.not_mem_nil, or_false, not_or] at this
    refine ⟨fun h => ?_, this.2.2.2, this.2.1⟩
    subst h
    exact i.known _ hx n6
  have eT : ∀ x ∈ T, h5 x = h1 x := by
    intro x hx
    cases hh : h1 x with
    | none => exact absurd hh (i.known x hx)
    | some O => exact l5 _ _ hh
  refine ⟨fl, ?_⟩
  -- the record is busy
  have g6 : (h5.upd l (.loop { r0 with state := .busy })) b6 = _ := (PH.upd_ne _ _ n6l).trans e6
  have g3 : (h5.upd l (.loop { r0 with state := .busy })) b3 = _ := (PH.upd_ne _ _ n3l).trans f3
  have g5 : (h5.upd l (.loop { r0 with state := .busy })) b5 = _ := (PH.upd_ne _ _ n5l).trans f5
  have gd : (h5.upd l (.loop { r0 with state := .busy })) bd = _ := (PH.upd_ne _ _ ndl).trans fd
  have gl := PH.upd_same h5 l (.loop { r0 with state := .busy })
  have gT : ∀ x ∈ T, (h5.upd l (.loop { r0 with state := .busy })) x = h1 x := fun x hx => (PH.upd_ne _ _ (iT x hx).2.1).trans (eT x hx)
  have gx : ∀ x O, h1 x = some O → x ≠ l → (h5.upd l (.loop { r0 with state := .busy })) x = some O := fun x O hx hn => (PH.upd_ne _ _ hn).trans (l5 _ _ hx)
  generalize h5.upd l (.loop { r0 with state := .busy }) = h6 at g6 g3 g5 gd gl gT gx ⊢
  have i6 := i.of gT
  simp only [xNn_some, add_mk, cell_mk, upd_at, del_at, if_true, if_false, Option.bind_some, List.getElem?_toArray, List.getElem?_cons_succ, List.getElem?_cons_zero, oI_some, oS_some, oM_some, oB_some, oP_some, oT_some, xIdx_some, Nat.zero_add, Nat.add_zero, Nat.mul_one, g6, g3]
  have back : (.loop { ({ r0 with state := .busy } : Loop) with state := .ready, pending := none } : Obj) = .loop r0 := by
    obtain ⟨st0, pd, fn0, tm0, pr0, as0, bd0, df0⟩ := r0
    dsimp only at hr hp ⊢
    subst hr; subst hp; rfl
  refine xBlk_split (fun h' => ∃ T', h' b3 = some (.cells #[.int .i64 o] 3 (0, 0)) ∧ h' bd = some (.deferred (some [])) ∧ h' l = some (.loop { r0 with state := .busy }) ∧ (∃ p n c, h' b5 = some (.cells #[.slice p n c] 47 (0, 0)) ∧ IntsIn h' p n c (thrE o (v ++ [e])) T') ∧ (∀ x ∈ T', x ∉ [b3, b5, bd, l]) ∧ (∀ x O, h1 x = some O → x ∉ [b3, b5, bd, l] ++ T → h' x = some O) ∧ ∀ x ∈ T', x ∈ T ∨ h1 x = none) ?_ ?_
  · rintro h' ⟨T', a3, ad, al, ⟨p', n', c', a5, i'⟩, dj', fr, nw⟩
    refine ⟨al, by trivial, [b3, b5, bd, l] ++ T', ⟨(PH.upd_ne _ _ n3l).trans a3, (PH.upd_ne _ _ ndl).trans ad, ?_, p', n', c', T', (PH.upd_ne _ _ n5l).trans a5, i'.of fun x hx => PH.upd_ne _ _ fun hh => ?_, rfl, dj'⟩, ?_, ?_⟩
    · exact (PH.upd_same _ _ _).trans (congrArg some back)
    · have := dj' x hx
      simp [hh] at this
    · intro x O hx hm
      have hxl : x ≠ l := fun hh => hm (by simp [hh])
      rw [PH.upd_ne _ _ hxl]
      exact fr x O hx hm
    · intro x hx
      rcases List.mem_append.1 hx with hx | hx
      · exact .inl (List.mem_append_left _ hx)
      · rcases nw x hx with h | h
        · exact .inl (List.mem_append_right _ h)
        · exact .inr h
  intro K' hK'
  have frame : ∀ x O, h1 x = some O → x ∉ [b3, b5, bd, l] ++ T → h6 x = some O := fun x O hx hm => gx x O hx fun hh => hm (by simp [hh])
  refine ⟨fun hc => ?_, fun hc => ?_⟩
  · -- a thread at the object
    have hc : p = o := by simpa using hc
    simp only [xNn_some, add_mk, cell_mk, upd_at, del_at, if_true, if_false, Option.bind_some, List.getElem?_toArray, List.getElem?_cons_succ, List.getElem?_cons_zero, oI_some, oS_some, oM_some, oB_some, oP_some, oT_some, xIdx_some, Nat.zero_add, Nat.add_zero, Nat.mul_one, g5, g6]
    intro b17 n17
    have l7 := PH.le_upd (O := .cells #[.int .i64 q] 3 (0, 0)) n17
    have e17 := PH.upd_same h6 b17 (.cells #[.int .i64 q] 3 (0, 0))
    generalize h6.upd b17 (.cells #[.int .i64 q] 3 (0, 0)) = h7 at l7 e17 ⊢
    have i7 := i6.of (h' := h7) fun x hx => by
      cases hh : h6 x with
      | none => exact absurd hh (i6.known x hx)
      | some O => exact l7 _ _ hh
    refine i7.app e17 (Nat.le_trans (thrE_len _ _) few) ?_
    intro p' n' c' h8 S' i8 x8 nw8
    have n17x : ∀ {x : Nat} {O : Obj}, h6 x = some O → x ∉ T → h8 x = some O := fun hx hm => x8 _ _ (l7 _ _ hx) hm
    have offT : ∀ {x : Nat}, x ∈ [b3, b5, bd, l] → x ∉ T := fun hx hm => dj _ hm hx
    have k3 := n17x g3 (offT (by simp))
    have k5 := n17x g5 (offT (by simp))
    have kd := n17x gd (offT (by simp))
    have kl := n17x gl (offT (by simp))
    have newS : ∀ x ∈ S', x ∈ T ∨ h6 x = none := by
      intro x hx
      rcases nw8 x hx with h | h
      · exact .inl h
      · right
        cases hh : h6 x with
        | none => rfl
        | some O => rw [l7 _ _ hh] at h; cases h
    have offS : ∀ {x : Nat} {O : Obj}, h6 x = some O → x ∉ T → x ∉ S' := fun hx hm hs => by
      rcases newS _ hs with h | h
      · exact hm h
      · rw [hx] at h; cases h
    refine xSt_mk k5 rfl (by decide) (by simp [oneCell]) (by simp) ?_
    have s1 : setN #[Value.slice sp sn sc] 0 [.slice p' n' c'] = #[.slice p' n' c'] := rfl
    rw [s1]
    refine hK' _ ⟨S', (PH.upd_ne _ _ n35).trans k3, (PH.upd_ne _ _ (Ne.symm n5d)).trans kd, (PH.upd_ne _ _ (Ne.symm n5l)).trans kl, ⟨p', n', c', PH.upd_same _ _ _, ?_⟩, ?_, ?_, ?_⟩
    · rw [thrE_snoc, kp, if_pos hc]
      exact i8.of fun x hx => PH.upd_ne _ _ fun hh => by subst hh; exact offS g5 (offT (by simp)) hx
    · intro x hx hm
      simp only [List.mem_cons, List.not_mem_nil, or_false] at hm
      rcases hm with rfl | rfl | rfl | rfl
      · exact offS g3 (offT (by simp)) hx
      · exact offS g5 (offT (by simp)) hx
      · exact offS gd (offT (by simp)) hx
      · exact offS gl (offT (by simp)) hx
    · intro x O hx hm
      have h6x := frame x O hx hm
      have hx5 : x ≠ b5 := fun hh => hm (by simp [hh])
      rw [PH.upd_ne _ _ hx5]
      exact n17x h6x fun ht => hm (List.mem_append_right _ ht)
    · intro x hx
      rcases newS x hx with h | h
      · exact .inl h
      · by_cases hm : x ∈ [b3, b5, bd, l] ++ T
        · rcases List.mem_append.1 hm with hm | hm
          · exfalso
            simp only [List.mem_cons, List.not_mem_nil, or_false] at hm
            rcases hm with rfl | rfl | rfl | rfl
            · rw [g3] at h; cases h
            · rw [g5] at h; cases h
            · rw [gd] at h; cases h
            · rw [gl] at h; cases h
          · exact .inl hm
        · right
          cases hh : h1 x with
          | none => rfl
          | some O => rw [frame x O hh hm] at h; cases h
  · have hc : ¬p = o := by simpa using hc
    refine hK' _ ⟨T, g3, gd, gl, ⟨sp, sn, sc, g5, ?_⟩, dj, frame, fun x hx => .inl hx⟩
    rw [thrE_snoc, kp, if_neg hc, List.append_nil]
    exact i6


theorem thr_round_left {o p q : Int} {b3 b5 bd l : Nat} {r0 : Loop} (nd : [b3, b5, bd, l].Nodup) (hr : r0.state = .ready) (hp : r0.pending = none) {v : List MapEntry} {S : List Nat} {h1 : PH} {e : MapEntry} (hI : ThrI o b3 b5 bd l r0 v S h1) (hk : e.key = key2 p q) (few : v.length ≤ 1000000)
    (y8 : Value) (y7 y0 : Option Nat) (y4 : Option Addr) (y41 y42 : Nat) :
    R_model_threads_model_left y8 y7 ⟨b5, 0, none⟩ y4 y41 y42 ⟨b3, 0, none⟩ y0 o p q r0 l h1 fun r h2 => r = .bool true ∧ ∃ S', ThrI o b3 b5 bd l r0 (v ++ [e]) S' h2 ∧ Ext S h1 h2 ∧ ∀ b ∈ S', b ∈ S ∨ h1 b = none := thr_round nd hr hp hI hk few y8 y7 y0 y4 y41 y42

theorem meets_threads_waits {h : PH} {b : Nat} {l : Pl Int} (r : MapRep encI h b l) (few : l.length ≤ 64) (o : Int) : Meets Try.prog 59 #[.map (some b), .int .i64 o] h fun v h' => IntsAt h h' v (sortI (thrP o l)) := by
  obtain ⟨es, cl, eb, en, st⟩ := r
  have elen : es.toList.length = l.length := by
    have := congrArg List.length en
    simpa using this
  apply P_model_threads_int_of
  unfold P_model_threads_int
  intro b3 n3
  have e3 := PH.upd_same h b3 (.cells #[.int .i64 o] 3 (0, 0))
  have l1 := PH.le_upd (O := .cells #[.int .i64 o] 3 (0, 0)) n3
  generalize h.upd b3 (.cells #[.int .i64 o] 3 (0, 0)) = h1 at e3 l1 ⊢
  intro b5 n5
  have e5 := PH.upd_same h1 b5 (.cells #[.slice none 0 0] 47 (0, 0))
  have l2 := PH.le_upd (O := .cells #[.slice none 0 0] 47 (0, 0)) n5
  generalize h1.upd b5 (.cells #[.slice none 0 0] 47 (0, 0)) = h2 at e5 l2 ⊢
  have f3 := l2 _ _ e3
  have m5 : h b5 = none := none_of l1 n5
  have n35 : b3 ≠ b5 := ne_of_known e3 n5
  have eb2 := l2 _ _ (l1 _ _ eb)
  apply P_maps_Keys_map_model_place_int_model_place_int_of
  unfold P_maps_Keys_map_model_place_int_model_place_int
  intro c0 nc
  have ec := PH.upd_same h2 c0 (.cells #[.map (some b)] 42 (0, 0))
  have l3 := PH.le_upd (O := .cells #[.map (some b)] 42 (0, 0)) nc
  generalize h2.upd c0 (.cells #[.map (some b)] 42 (0, 0)) = h3 at ec l3 ⊢
  simp only [oV_some]
  refine ⟨105, [.pointer (some ⟨c0, 0, none⟩)], rfl, by kernel_rfl, ?_⟩
  intro fn tmps bd lp hsz hfit nd nl hdl
  have g3 := l3 _ _ f3
  have g5 := l3 _ _ e5
  have eb3 := l3 _ _ eb2
  have le3 := PH.le_trans l1 (PH.le_trans l2 l3)
  have md : h bd = none := none_of le3 nd
  have ml : h lp = none := none_of le3 nl
  have n3d : b3 ≠ bd := ne_of_known g3 nd
  have n3l : b3 ≠ lp := ne_of_known g3 nl
  have n5d : b5 ≠ bd := ne_of_known g5 nd
  have n5l : b5 ≠ lp := ne_of_known g5 nl
  have ncd : c0 ≠ bd := ne_of_known ec nd
  have ncl : c0 ≠ lp := ne_of_known ec nl
  have nbd : b ≠ bd := ne_of_known eb3 nd
  have nbl : b ≠ lp := ne_of_known eb3 nl
  have nd4' : [b3, b5, bd, lp].Nodup := by simp [n35, n3d, n3l, n5d, n5l, hdl]
  have lv : ∀ O O', h3.le ((h3.upd bd O).upd lp O') := fun O O' => PH.le_trans (PH.le_upd nd) (PH.le_upd ((PH.upd_ne _ _ (Ne.symm hdl)).trans nl))
  generalize hr0 : ({ state := .ready, pending := none, fn := fn, tmps := tmps, params := #[9], assign := rfAssign Try.f59, body := rfBody Try.f59, defers := bd } : Loop) = r0
  have q1 : r0.state = .ready := by rw [← hr0]
  have q2 : r0.pending = none := by rw [← hr0]
  have bnot : b ∉ [b3, b5, bd, lp] := by
    simp only [List.mem_cons, List.not_mem_nil, or_false, not_or]
    exact ⟨fun hh => (by subst hh; rw [n3] at eb; cases eb), fun hh => (by subst hh; rw [m5] at eb; cases eb), nbd, nbl⟩
  have h0 : ThrI o b3 b5 bd lp r0 [] [b3, b5, bd, lp] ((h3.upd bd (.deferred (some []))).upd lp (.loop r0)) := by
    refine ⟨lv _ _ _ _ g3, (PH.upd_ne _ _ hdl).trans (PH.upd_same _ _ _), PH.upd_same _ _ _, none, 0, 0, [], lv _ _ _ _ g5, IntsIn.nil _, by simp, by simp⟩
  refine (meets_keys_waits (thrI_kept o b3 b5 bd lp r0) (lv _ _ _ _ eb3) (lv _ _ _ _ ec) st en.keys bnot h0 ?_).mono ?_
  · intro v S hh e hI he nv sv
    obtain ⟨p, q, hk⟩ := en.keys e he
    have few' : v.length ≤ 1000000 := by
      have := nodup_le nv sv
      rw [List.length_append] at this
      simp only [List.length_singleton] at this
      omega
    have rd := thr_round nd4' q1 q2 hI hk few' (.func (.func 105) #[] #[.pointer (some ⟨c0, 0, none⟩)]) (some b) (some b) none 0 0
    have rd' := (R_model_threads_int_eq _ _ _ _ _ _ _ _ _ _ _ _ _ _ _).mpr rd
    rw [hk]
    have hl := hI.2.2.1
    subst hr0
    refine yield_of2 (e0 := [(9, key2 p q), (8, .func (.func 105) #[] #[.pointer (some ⟨c0, 0, none⟩)]), (7, .map (some b)), (5, .pointer (some ⟨b5, 0, none⟩)), (4, .slice none 0 0), (3, .pointer (some ⟨b3, 0, none⟩)), (0, .map (some b)), (1, .int .i64 o)]) (annA := AA_model_threads_int) (annB := AB_model_threads_int) (m := 22) rfl rfl hl rfl rfl (fits_round hfit (show 9 < tmps.size by omega)) ?_ (by kernel_rfl) (by kernel_rfl) ?_
    · simpa using hsz
    · exact rd'
  · rintro v hh ⟨rfl, w, S, ⟨k3, kd, kl, p, n, c, T, k5, i, rfl, dj⟩, hmem, nw, xt, nw0⟩
    refine ⟨r0, kl, by rw [q1]; simp, q2, ?_⟩
    have hx := PH.upd_ne hh (.loop { r0 with state := .exhausted }) n5l
    have hd := PH.upd_ne hh (.loop { r0 with state := .exhausted }) (Ne.symm (Ne.symm hdl))
    have hT : ∀ x ∈ T, (hh.upd lp (.loop { r0 with state := .exhausted })) x = hh x := fun x ht => PH.upd_ne _ _ fun e => by subst e; have := dj _ ht; simp at this
    have off4 : ∀ x O, h x = some O → x ∉ [b3, b5, bd, lp] := fun x O hx' hm => by
      simp only [List.mem_cons, List.not_mem_nil, or_false] at hm
      rcases hm with rfl | rfl | rfl | rfl
      · rw [n3] at hx'; cases hx'
      · rw [m5] at hx'; cases hx'
      · rw [md] at hx'; cases hx'
      · rw [ml] at hx'; cases hx'
    have fr : h.le (hh.upd lp (.loop { r0 with state := .exhausted })) := fun x O hx' => by
      have hm := off4 x O hx'
      have hl' : x ≠ lp := fun e => hm (by simp [e])
      rw [PH.upd_ne _ _ hl']
      exact xt x O (lv _ _ _ _ (le3 _ _ hx')) hm
    have nT : ∀ x ∈ T, h x = none := fun x ht => by
      rcases nw0 x (List.mem_append_right _ ht) with h' | h'
      · exact absurd h' (dj x ht)
      · cases hh' : h x with
        | none => rfl
        | some O => rw [lv _ _ _ _ (le3 _ _ hh')] at h'; cases h'
    have ndT : ∀ x ∈ T, x ≠ bd ∧ x ≠ b5 := fun x ht => by have := dj x ht; simp only [List.mem_cons, List.not_mem_nil, or_false, not_or] at this; exact ⟨this.2.2.1, this.2.1⟩
    have k5' := hx.trans k5
    have kd' := hd.trans kd
    have i' := i.of hT
    clear hx hd hT
    generalize hh.upd lp (.loop { r0 with state := .exhausted }) = h11 at k5' kd' i' fr ⊢
    have hsrt : sortI (thrE o w) = sortI (thrP o l) := by
      rw [← thrE_ents en o]
      exact sortI_perm (thrE_perm o (perm_of_once nw st.nodup (fun e => hmem e)))
    have hlen : (thrE o w).length < 4611686018427387904 := by
      have h1 := nodup_le nw (fun e he => (hmem e).2 he)
      have h2 := thrE_len o w
      omega
    simp only [xNn_some, add_mk, cell_mk, upd_at, del_at, if_true, if_false, Option.bind_some, List.getElem?_toArray, List.getElem?_cons_succ, List.getElem?_cons_zero, oI_some, oS_some, oM_some, oB_some, oP_some, oT_some, xIdx_some, Nat.zero_add, Nat.add_zero, Nat.mul_one, k5']
    obtain ⟨rfl, ⟨hv, rfl, rfl, rfl⟩ | ⟨bo, junk, rfl, eo, hc, hj, rfl⟩⟩ := i'
    · rw [hv] at hsrt k5' ⊢
      refine (meets_sort_nil none 0).look ?_
      simp only [xNn_some, add_mk, cell_mk, upd_at, del_at, if_true, if_false, Option.bind_some, List.getElem?_toArray, List.getElem?_cons_succ, List.getElem?_cons_zero, oI_some, oS_some, oM_some, oB_some, oP_some, oT_some, xIdx_some, Nat.zero_add, Nat.add_zero, Nat.mul_one, k5', oTup_mk]
      refine ⟨rfl, ⟨kd', trivial⟩, ?_⟩
      rw [← hsrt]
      refine ⟨none, 0, 0, [], rfl, (by rw [show sortI [] = [] from by simp [sortI]]; exact IntsIn.nil _), ?_, by simp⟩
      exact fun x O hx' => (PH.upd_ne _ _ fun e => by subst e; rw [md] at hx'; cases hx').trans (fr _ _ hx')
    · have nbo := nT bo (by simp)
      obtain ⟨bo1, bo2⟩ := ndT bo (by simp)
      refine (meets_sort c eo hlen).mono ?_
      rintro _ _ ⟨rfl, rfl⟩
      simp only [xNn_some, add_mk, cell_mk, upd_at, del_at, if_true, if_false, Option.bind_some, List.getElem?_toArray, List.getElem?_cons_succ, List.getElem?_cons_zero, oI_some, oS_some, oM_some, oB_some, oP_some, oT_some, xIdx_some, Nat.zero_add, Nat.add_zero, Nat.mul_one, oTup_mk, Ne.symm bo2, k5']
      refine ⟨rfl, ⟨(PH.upd_ne _ _ (Ne.symm bo1)).trans kd', trivial⟩, ?_⟩
      refine ⟨some ⟨bo, 0, none⟩, _, c, [bo], rfl, ⟨by rw [← hsrt, sortI_length], .inr ⟨bo, junk, rfl, ?_, by rw [← hsrt, sortI_length]; exact hc, by rw [← hsrt, sortI_length]; exact hj, rfl⟩⟩, ?_, by simp [nbo]⟩
      · show ((h11.upd bo _).upd bd _) bo = _
        rw [PH.upd_ne _ _ bo1, PH.upd_same, hsrt]
      · intro x O hx'
        have h1 : x ≠ bd := fun e => by subst e; rw [md] at hx'; cases hx'
        have h2 : x ≠ bo := fun e => by subst e; rw [nbo] at hx'; cases hx'
        show ((h11.upd bo _).upd bd _) x = _
        rw [PH.upd_ne _ _ h1, PH.upd_ne _ _ h2]
        exact fr _ _ hx'

theorem meets_threads_left {h : PH} {b : Nat} {l : Pl (Int × Int)} (r : MapRep encL h b l) (few : l.length ≤ 64) (o : Int) : Meets Try.prog 60 #[.map (some b), .int .i64 o] h fun v h' => IntsAt h h' v (sortI (thrP o l)) := by
  obtain ⟨es, cl, eb, en, st⟩ := r
  have elen : es.toList.length = l.length := by
    have := congrArg List.length en
    simpa using this
  apply P_model_threads_model_left_of
  unfold P_model_threads_model_left
  intro b3 n3
  have e3 := PH.upd_same h b3 (.cells #[.int .i64 o] 3 (0, 0))
  have l1 := PH.le_upd (O := .cells #[.int .i64 o] 3 (0, 0)) n3
  generalize h.upd b3 (.cells #[.int .i64 o] 3 (0, 0)) = h1 at e3 l1 ⊢
  intro b5 n5
  have e5 := PH.upd_same h1 b5 (.cells #[.slice none 0 0] 47 (0, 0))
  have l2 := PH.le_upd (O := .cells #[.slice none 0 0] 47 (0, 0)) n5
  generalize h1.upd b5 (.cells #[.slice none 0 0] 47 (0, 0)) = h2 at e5 l2 ⊢
  have f3 := l2 _ _ e3
  have m5 : h b5 = none := none_of l1 n5
  have n35 : b3 ≠ b5 := ne_of_known e3 n5
  have eb2 := l2 _ _ (l1 _ _ eb)
  apply P_maps_Keys_map_model_place_model_left_model_place_model_left_of
  unfold P_maps_Keys_map_model_place_model_left_model_place_model_left
  intro c0 nc
  have ec := PH.upd_same h2 c0 (.cells #[.map (some b)] 43 (0, 0))
  have l3 := PH.le_upd (O := .cells #[.map (some b)] 43 (0, 0)) nc
  generalize h2.upd c0 (.cells #[.map (some b)] 43 (0, 0)) = h3 at ec l3 ⊢
  simp only [oV_some]
  refine ⟨108, [.pointer (some ⟨c0, 0, none⟩)], rfl, by kernel_rfl, ?_⟩
  intro fn tmps bd lp hsz hfit nd nl hdl
  have g3 := l3 _ _ f3
  have g5 := l3 _ _ e5
  have eb3 := l3 _ _ eb2
  have le3 := PH.le_trans l1 (PH.le_trans l2 l3)
  have md : h bd = none := none_of le3 nd
  have ml : h lp = none := none_of le3 nl
  have n3d : b3 ≠ bd := ne_of_known g3 nd
  have n3l : b3 ≠ lp := ne_of_known g3 nl
  have n5d : b5 ≠ bd := ne_of_known g5 nd
  have n5l : b5 ≠ lp := ne_of_known g5 nl
  have ncd : c0 ≠ bd := ne_of_known ec nd
  have ncl : c0 ≠ lp := ne_of_known ec nl
  have nbd : b ≠ bd := ne_of_known eb3 nd
  have nbl : b ≠ lp := ne_of_known eb3 nl
  have nd4' : [b3, b5, bd, lp].Nodup := by simp [n35, n3d, n3l, n5d, n5l, hdl]
  have lv : ∀ O O', h3.le ((h3.upd bd O).upd lp O') := fun O O' => PH.le_trans (PH.le_upd nd) (PH.le_upd ((PH.upd_ne _ _ (Ne.symm hdl)).trans nl))
  generalize hr0 : ({ state := .ready, pending := none, fn := fn, tmps := tmps, params := #[9], assign := rfAssign Try.f60, body := rfBody Try.f60, defers := bd } : Loop) = r0
  have q1 : r0.state = .ready := by rw [← hr0]
  have q2 : r0.pending = none := by rw [← hr0]
  have bnot : b ∉ [b3, b5, bd, lp] := by
    simp only [List.mem_cons, List.not_mem_nil, or_false, not_or]
    exact ⟨fun hh => (by subst hh; rw [n3] at eb; cases eb), fun hh => (by subst hh; rw [m5] at eb; cases eb), nbd, nbl⟩
  have h0 : ThrI o b3 b5 bd lp r0 [] [b3, b5, bd, lp] ((h3.upd bd (.deferred (some []))).upd lp (.loop r0)) := by
    refine ⟨lv _ _ _ _ g3, (PH.upd_ne _ _ hdl).trans (PH.upd_same _ _ _), PH.upd_same _ _ _, none, 0, 0, [], lv _ _ _ _ g5, IntsIn.nil _, by simp, by simp⟩
  refine (meets_keys_left (thrI_kept o b3 b5 bd lp r0) (lv _ _ _ _ eb3) (lv _ _ _ _ ec) st en.keys bnot h0 ?_).mono ?_
  · intro v S hh e hI he nv sv
    obtain ⟨p, q, hk⟩ := en.keys e he
    have few' : v.length ≤ 1000000 := by
      have := nodup_le nv sv
      rw [List.length_append] at this
      simp only [List.length_singleton] at this
      omega
    have rd := thr_round_left nd4' q1 q2 hI hk few' (.func (.func 108) #[] #[.pointer (some ⟨c0, 0, none⟩)]) (some b) (some b) none 0 0
    have rd' := (R_model_threads_model_left_eq _ _ _ _ _ _ _ _ _ _ _ _ _ _ _).mpr rd
    rw [hk]
    have hl := hI.2.2.1
    subst hr0
    refine yield_of2 (e0 := [(9, key2 p q), (8, .func (.func 108) #[] #[.pointer (some ⟨c0, 0, none⟩)]), (7, .map (some b)), (5, .pointer (some ⟨b5, 0, none⟩)), (4, .slice none 0 0), (3, .pointer (some ⟨b3, 0, none⟩)), (0, .map (some b)), (1, .int .i64 o)]) (annA := AA_model_threads_model_left) (annB := AB_model_threads_model_left) (m := 22) rfl rfl hl rfl rfl (fits_round hfit (show 9 < tmps.size by omega)) ?_ (by kernel_rfl) (by kernel_rfl) ?_
    · simpa using hsz
    · exact rd'
  · rintro v hh ⟨rfl, w, S, ⟨k3, kd, kl, p, n, c, T, k5, i, rfl, dj⟩, hmem, nw, xt, nw0⟩
    refine ⟨r0, kl, by rw [q1]; simp, q2, ?_⟩
    have hx := PH.upd_ne hh (.loop { r0 with state := .exhausted }) n5l
    have hd := PH.upd_ne hh (.loop { r0 with state := .exhausted }) (Ne.symm (Ne.symm hdl))
    have hT : ∀ x ∈ T, (hh.upd lp (.loop { r0 with state := .exhausted })) x = hh x := fun x ht => PH.upd_ne _ _ fun e => by subst e; have := dj _ ht; simp at this
    have off4 : ∀ x O, h x = some O → x ∉ [b3, b5, bd, lp] := fun x O hx' hm => by
      simp only [List.mem_cons, List.not_mem_nil, or_false] at hm
      rcases hm with rfl | rfl | rfl | rfl
      · rw [n3] at hx'; cases hx'
      · rw [m5] at hx'; cases hx'
      · rw [md] at hx'; cases hx'
      · rw [ml] at hx'; cases hx'
    have fr : h.le (hh.upd lp (.loop { r0 with state := .exhausted })) := fun x O hx' => by
      have hm := off4 x O hx'
      have hl' : x ≠ lp := fun e => hm (by simp [e])
      rw [PH.upd_ne _ _ hl']
      exact xt x O (lv _ _ _ _ (le3 _ _ hx')) hm
    have nT : ∀ x ∈ T, h x = none := fun x ht => by
      rcases nw0 x (List.mem_append_right _ ht) with h' | h'
      · exact absurd h' (dj x ht)
      · cases hh' : h x with
        | none => rfl
        | some O => rw [lv _ _ _ _ (le3 _ _ hh')] at h'; cases h'
    have ndT : ∀ x ∈ T, x ≠ bd ∧ x ≠ b5 := fun x ht => by have := dj x ht; simp only [List.mem_cons, List.not_mem_nil, or_false, not_or] at this; exact ⟨this.2.2.1, this.2.1⟩
    have k5' := hx.trans k5
    have kd' := hd.trans kd
    have i' := i.of hT
    clear hx hd hT
    generalize hh.upd lp (.loop { r0 with state := .exhausted }) = h11 at k5' kd' i' fr ⊢
    have hsrt : sortI (thrE o w) = sortI (thrP o l) := by
      rw [← thrE_ents en o]
      exact sortI_perm (thrE_perm o (perm_of_once nw st.nodup (fun e => hmem e)))
    have hlen : (thrE o w).length < 4611686018427387904 := by
      have h1 := nodup_le nw (fun e he => (hmem e).2 he)
      have h2 := thrE_len o w
      omega
    simp only [xNn_some, add_mk, cell_mk, upd_at, del_at, if_true, if_false, Option.bind_some, List.getElem?_toArray, List.getElem?_cons_succ, List.getElem?_cons_zero, oI_some, oS_some, oM_some, oB_some, oP_some, oT_some, xIdx_some, Nat.zero_add, Nat.add_zero, Nat.mul_one, k5']
    obtain ⟨rfl, ⟨hv, rfl, rfl, rfl⟩ | ⟨bo, junk, rfl, eo, hc, hj, rfl⟩⟩ := i'
    · rw [hv] at hsrt k5' ⊢
      refine (meets_sort_nil none 0).look ?_
      simp only [xNn_some, add_mk, cell_mk, upd_at, del_at, if_true, if_false, Option.bind_some, List.getElem?_toArray, List.getElem?_cons_succ, List.getElem?_cons_zero, oI_some, oS_some, oM_some, oB_some, oP_some, oT_some, xIdx_some, Nat.zero_add, Nat.add_zero, Nat.mul_one, k5', oTup_mk]
      refine ⟨rfl, ⟨kd', trivial⟩, ?_⟩
      rw [← hsrt]
      refine ⟨none, 0, 0, [], rfl, (by rw [show sortI [] = [] from by simp [sortI]]; exact IntsIn.nil _), ?_, by simp⟩
      exact fun x O hx' => (PH.upd_ne _ _ fun e => by subst e; rw [md] at hx'; cases hx').trans (fr _ _ hx')
    · have nbo := nT bo (by simp)
      obtain ⟨bo1, bo2⟩ := ndT bo (by simp)
      refine (meets_sort c eo hlen).mono ?_
      rintro _ _ ⟨rfl, rfl⟩
      simp only [xNn_some, add_mk, cell_mk, upd_at, del_at, if_true, if_false, Option.bind_some, List.getElem?_toArray, List.getElem?_cons_succ, List.getElem?_cons_zero, oI_some, oS_some, oM_some, oB_some, oP_some, oT_some, xIdx_some, Nat.zero_add, Nat.add_zero, Nat.mul_one, oTup_mk, Ne.symm bo2, k5']
      refine ⟨rfl, ⟨(PH.upd_ne _ _ (Ne.symm bo1)).trans kd', trivial⟩, ?_⟩
      refine ⟨some ⟨bo, 0, none⟩, _, c, [bo], rfl, ⟨by rw [← hsrt, sortI_length], .inr ⟨bo, junk, rfl, ?_, by rw [← hsrt, sortI_length]; exact hc, by rw [← hsrt, sortI_length]; exact hj, rfl⟩⟩, ?_, by simp [nbo]⟩
      · show ((h11.upd bo _).upd bd _) bo = _
        rw [PH.upd_ne _ _ bo1, PH.upd_same, hsrt]
      · intro x O hx'
        have h1 : x ≠ bd := fun e => by subst e; rw [md] at hx'; cases hx'
        have h2 : x ≠ bo := fun e => by subst e; rw [nbo] at hx'; cases hx'
        show ((h11.upd bo _).upd bd _) x = _
        rw [PH.upd_ne _ _ h1, PH.upd_ne _ _ h2]
        exact fr _ _ hx'

end Go.Md
