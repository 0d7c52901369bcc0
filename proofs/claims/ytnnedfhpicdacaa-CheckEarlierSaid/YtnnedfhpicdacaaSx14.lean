/-
  SX, part 14: a round of a range over a function, out of its record; an iterator's contract.
-/
import Derived.Test.YtnnedfhpicdacaaSx13
import Derived.RangeFuncRecord
namespace Go.Sx
open Go

/-- A round: the record is ready, its assignment and its body are read, and it is ready again. -/
theorem yield_of {P : Program} {l : Nat} {r : Loop} {h : PH} {args : Array Value} {e0 : Env} {annA annB : Ann} {K : Value → PH → Prop} {m : Nat} (hl : h l = some (.loop r)) (hs : r.state = .ready) (ha : args.size = r.params.size)
    (hf : Fits e0 { tmps := (r.params.zip args).foldl (fun tmps (t, a) => tmps.setIfInBounds t a) r.tmps, defers := [] }) (hm : m ≤ ((r.params.zip args).foldl (fun tmps (t, a) => tmps.setIfInBounds t a) r.tmps).size)
    (hinA : codeIn m r.assign = true) (hinB : codeIn m r.body = true)
    (hd : dCodeI P r.assign annA e0 h (fun e1 h1 => h1 l = some (.loop r) ∧ dCodeI P r.body annB e1 (h1.upd l (.loop { r with state := .busy })) (fun _ h2 => h2 l = some (.loop { r with state := .busy }) ∧ K (.bool true) (h2.upd l (.loop { r with state := .ready, pending := none }))) (fun _ _ _ => False) (fun _ _ => False)) (fun _ _ _ => False) (fun _ _ => False)) :
    xYield P l args h K := by
  intro n W w st
  refine ⟨r.fn, _, r.assign, r.body, run_yield (st.sh _ _ hl) ha, ?_⟩
  refine roundIn_of_wpIn trivial ?_
  refine wpIn_mono (dCodeI_sound (wd_round l) r.assign annA e0 h _ _ _ _ w hd hinA hf st hm) ?_
  intro ex a1 w1 hp
  cases ex with
  | normal =>
    obtain ⟨hk, e1, h1, f1, s1, hl1, hb⟩ := hp
    have hw1 := s1.sh _ _ hl1
    have hlt : l < w1.heap.size := (Array.getElem?_eq_some_iff.1 hw1).1
    refine ⟨_, run_beginRound hw1 hs, ?_⟩
    have s2 : St W (h1.upd l (.loop { r with state := .busy })) (w1.putObj l (.loop { r with state := .busy })) := s1.setObj l _ hlt
    refine wpIn_mono (dCodeI_sound (wd_round l) r.body annB e1 _ _ _ _ a1 _ hb hinB f1 s2 (by rw [hk.1]; exact hm)) ?_
    intro ex a2 w2 hp
    cases ex with
    | normal =>
      obtain ⟨_, e2, h2, _, s3, hl2, hK⟩ := hp
      have hw2 := s3.sh _ _ hl2
      have hlt2 : l < w2.heap.size := (Array.getElem?_eq_some_iff.1 hw2).1
      refine ⟨_, _, run_endRound none hw2, _, _, rfl, s3.setObj l _ hlt2, hK⟩
    | exit id => exact (hp.2.elim fun _ ⟨_, _, _, hx⟩ => hx).elim
    | ret => exact (hp.2.elim fun _ ⟨_, _, _, hx⟩ => hx).elim
    | goto t => exact (show False from hp).elim
    | panic c => exact (show False from hp).elim
    | outgrown => exact (show False from hp).elim
  | exit id => exact (hp.2.elim fun _ ⟨_, _, _, hx⟩ => hx).elim
  | ret => exact (hp.2.elim fun _ ⟨_, _, _, hx⟩ => hx).elim
  | goto t => exact (show False from hp).elim
  | panic c => exact (show False from hp).elim
  | outgrown => exact (show False from hp).elim

/-- A function's reading, in text's order, with calls of yield. -/
def dFnI (P : Program) (fn : Func) (ann : Ann) (args : Array Value) (h : PH) (Q : Value → PH → Prop) : Prop :=
  match fn.body with
  | some c => dCodeI P c ann (argEnv args.toList 0) h (fun e h' => dRets P fn.results.toList e h' fun vs => Q (retVal vs) h') (fun _ _ _ => False) (fun e h' => dRets P fn.results.toList e h' fun vs => Q (retVal vs) h')
  | none => False

theorem specI_of {P : Program} {f : FuncId} {fn : Func} {ann : Ann} {args : Array Value} {h : PH} {Q : Value → PH → Prop} (hf : P.funcs[f]? = some fn) (hok : fnOk fn args.size = true)
    (hd : dFnI P fn ann args h Q) : Meets P f args h Q := by
  intro W w st
  unfold dFnI at hd
  unfold fnOk at hok
  cases hb : fn.body with
  | none => rw [hb] at hd; exact hd.elim
  | some c =>
    rw [hb] at hd hok
    simp only [Bool.and_eq_true] at hok
    obtain ⟨hin, hle⟩ := hok
    have hle := Nat.le_of_ble_eq_true hle
    refine calls_of_wp hf hb ?_
    have hsz : (args ++ Array.replicate (fn.ntmps - args.size) undef).size = fn.ntmps := by simp; omega
    have hfit : Fits (argEnv args.toList 0) { tmps := args ++ Array.replicate (fn.ntmps - args.size) undef, defers := [] } := by
      refine ⟨fun t v hg => ?_⟩
      obtain ⟨_, hv⟩ := argEnv_get _ _ _ _ hg
      simp only [Nat.sub_zero] at hv
      have hv' : args[t]? = some v := by simpa using hv
      have hlt : t < args.size := (Array.getElem?_eq_some_iff.1 hv').1
      simp only [Array.getElem?_append, hlt, if_true]
      exact hv'
    refine wp_mono (wpIn_wide (n := 0) |>.1 <| dCodeI_sound wd_wide c ann _ h _ _ _ _ w hd hin hfit st (by rw [hsz]; exact Nat.le_refl _)) ?_
    have fin : ∀ (a : Act) (w' : World) (e : Env) (h' : PH), a.defers = [] → Fits e a → St W h' w' → dRets P fn.results.toList e h' (fun vs => Q (retVal vs) h') →
        a.defers = [] ∧ ∃ v, (results fn a.tmps).run P w' = .ok v w' ∧ ∃ v_1 h'', Ending.returned v = .returned v_1 ∧ St W h'' w' ∧ Q v_1 h'' := by
      intro a w' e h' hdf hf' st' hr
      obtain ⟨vs, hQ, hrun⟩ := dRets_sound hf' st' _ _ hr
      refine ⟨hdf, retVal vs, ?_, retVal vs, h', rfl, st', hQ⟩
      rw [results_eq]
      have hl : fn.results = fn.results.toList.toArray := by simp
      rw [hl, List.mapM_toArray, Sem.run_bind, Sem.run_map, hrun]
      simp only [Result.andThen_ok]
      unfold retVal
      cases vs with
      | nil => rfl
      | cons v r =>
        cases r with
        | nil => rfl
        | cons u r =>
          simp only [List.size_toArray, List.length_cons]
          rw [dif_neg (by omega)]
          rfl
    intro ex a w' hp
    cases ex with
    | normal => obtain ⟨hk, e, h', hf', st', hr⟩ := hp; exact fin a w' e h' hk.3 hf' st' hr
    | ret => obtain ⟨hk, e, h', hf', st', hr⟩ := hp; exact fin a w' e h' hk hf' st' hr
    | exit id => exact hp.2.elim fun _ ⟨_, _, _, hx⟩ => hx
    | goto l => exact (show False from hp).elim
    | panic ch => exact (show False from hp).elim
    | outgrown => exact (show False from hp).elim

end Go.Sx
