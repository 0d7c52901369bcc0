/-
  SX, part 6: a region's operations over slots that are known: 'a && b', 'a || b' as one branch; soundness.
-/
import Derived.Test.YtnnedfhpicdacaaSx5
namespace Go.Sx
open Go

/-- Is an operation guarded by 'j is want', or by one of the group? -/
def inGrp (o : Oper) (j : Nat) (want : Bool) (seen : List Nat) : Bool :=
  match o.guard with
  | some (j', w') => (Nat.beq j' j && (w' == want)) || seen.any (Nat.beq j')
  | none => false
def spanGrp (ops : Array Oper) (j : Nat) (want : Bool) : List Nat → Items → Items × Items
  | _, [] => ([], [])
  | seen, (i, kd) :: rest =>
    match ops[i]? with
    | some o => (match inGrp o j want seen with
      | true => ((i, kd) :: (spanGrp ops j want (i :: seen) rest).1, (spanGrp ops j want (i :: seen) rest).2)
      | false => ([], (i, kd) :: rest))
    | none => ([], (i, kd) :: rest)

theorem spanGrp_append (ops : Array Oper) (j : Nat) (want : Bool) : ∀ (l : Items) (seen : List Nat), (spanGrp ops j want seen l).1 ++ (spanGrp ops j want seen l).2 = l
  | [], _ => rfl
  | (i, kd) :: rest, seen => by
    unfold spanGrp
    split
    · split
      · simp only [List.cons_append]; rw [spanGrp_append ops j want rest]
      · rfl
    · rfl

def nodupN : List Nat → Bool
  | [] => true
  | x :: xs => !xs.any (Nat.beq x) && nodupN xs

/-- 'if b is want: the group; else nothing': then what follows, of the group's answer, or b. -/
def xSc (b want : Bool) (grp : (Bool → PH → Prop) → Prop) (K : Bool → PH → Prop) (h : PH) : Prop := (b = want → grp K) ∧ (b = !want → K b h)

def stepD (P : Program) (o : Oper) (kd : Kd) (hs : PH) (e : Env) (h : PH) (K : Value → PH → Prop) : Prop :=
  match kd with
  | .flt => fOp P o e hs fun v => K v h
  | .eff => aOp P o e h fun v h' => hs.le h' ∧ K v h'
  | .brk => aOp P o e h K

def inG (G : List (Nat × Bool)) (j : Nat) (want : Bool) : Bool := G.any fun g => Nat.beq g.1 j && (g.2 == want)
/-- 'x && y', 'x || y': the slot of x, of y, what is answered without y. -/
def pickOf (o : Oper) (want : Bool) : Option (Nat × Nat × Nat) :=
  match o.op, o.dst, want with
  | .pick (.tmp c) (.tmp x) (.const (.bool false)), some d, true => some (c, x, d)
  | .pick (.tmp c) (.const (.bool true)) (.tmp x), some d, false => some (c, x, d)
  | _, _, _ => none
def isEff : Kd → Bool
  | .eff => true
  | _ => false

def dList (P : Program) (ops : Array Oper) (hs : PH) : Nat → List (Nat × Bool) → Items → Env → PH → (Env → PH → Prop) → Prop
  | 0, _, _, _, _, _ => False
  | _ + 1, _, [], e, h, K => K e h
  | n + 1, G, (i, kd) :: rest, e, h, K =>
    match ops[i]? with
    | none => False
    | some o =>
      match o.guard with
      | none => stepD P o kd hs e h fun v h' => dList P ops hs n G rest (e.put o.dst v) h' K
      | some (j, want) =>
        match inG G j want with
        | true => stepD P o kd hs e h fun v h' => dList P ops hs n G rest (e.put o.dst v) h' K
        | false =>
          match (ops[j]?).bind (·.dst) with
          | none => False
          | some dj =>
            match e.get dj, spanGrp ops j want [] ((i, kd) :: rest) with
            | some (.bool b), (grp, (ip, kp) :: rest') =>
              (match ops[ip]? with
              | none => False
              | some op =>
                match pickOf op want with
                | none => False
                | some (c, dx, dp) =>
                  match Nat.beq c dj && !(dstsOf ops grp).any (Nat.beq dj) && nodupN (dstsOf ops grp) && !isEff kp && (match op.guard with | none => true | some (j', w') => inG G j' w') with
                  | true => xSc b want (fun J => dList P ops hs n ((j, want) :: G) grp e h fun e' h' => match e'.get dx with
                      | some (.bool r) => J r h'
                      | _ => False) (fun r h' => dList P ops hs n G rest' ((dp, .bool r) :: e.drop (dstsOf ops grp)) h' K) h
                  | false => False)
            | _, _ => False

theorem yields_bool {ops : Array Oper} {a : Act} {j d : Nat} {b : Bool} (hd : (ops[j]?).bind (·.dst) = some d) (ha : a.tmps[d]? = some (.bool b)) : yielded ops a.tmps j = some b := by
  unfold yielded
  simp only [hd, Option.bind_some, ha]

theorem yields_undef {ops : Array Oper} {a : Act} {i : Nat} {o : Oper} (ho : ops[i]? = some o) : yielded ops (a.put o.dst undef).tmps i = none := by
  unfold yielded
  simp only [ho, Option.bind_some]
  cases hd : o.dst with
  | none => rfl
  | some d =>
    simp only [Option.bind_some, Act.put]
    by_cases hlt : d < a.tmps.size
    · simp [hlt, undef]
    · simp [Array.getElem?_eq_none (xs := a.tmps.setIfInBounds d undef) (i := d) (by simpa using hlt)]

theorem yields_keep {ops : Array Oper} {a a' : Act} {D : List Nat} {i : Nat} (k : Keep D a a') (h : ∀ d, (ops[i]?).bind (·.dst) = some d → d ∉ D) : yielded ops a'.tmps i = yielded ops a.tmps i := by
  unfold yielded
  cases hd : (ops[i]?).bind (·.dst) with
  | none => rfl
  | some d => simp only [Option.bind_some]; rw [k.2 d (h d hd)]

theorem dstsOf_cons {ops : Array Oper} {i : Nat} {kd : Kd} {o : Oper} {l : Items} (ho : ops[i]? = some o) : dstsOf ops ((i, kd) :: l) = o.dst.toList ++ dstsOf ops l := by
  unfold dstsOf
  rw [List.filterMap_cons]
  simp only [ho, Option.bind_some]
  cases o.dst <;> rfl

theorem nodupN_append {xs ys : List Nat} (h : nodupN (xs ++ ys) = true) : nodupN ys = true ∧ ∀ x ∈ xs, x ∉ ys := by
  induction xs with
  | nil => exact ⟨h, fun x hx => by cases hx⟩
  | cons x xs ih =>
    simp only [List.cons_append, nodupN, Bool.and_eq_true, Bool.not_eq_true', List.any_append, Bool.or_eq_false_iff] at h
    obtain ⟨⟨_, h1⟩, h2⟩ := h
    obtain ⟨i1, i2⟩ := ih h2
    refine ⟨i1, fun y hy => ?_⟩
    rcases List.mem_cons.1 hy with rfl | hy
    · intro hm
      have := List.any_eq_false.1 h1 y hm
      simp at this
    · exact i2 y hy

section
variable {P : Program} {ops : Array Oper} {S : World → Prop} {Q : Exit → Act → World → Prop}

/-- A group that is not wanted. -/
theorem skip_sound {j dj : Nat} {want b : Bool} (hdj : (ops[j]?).bind (·.dst) = some dj) (hb : b ≠ want) {w : World} : ∀ (l : Items) (seen : List Nat) (a : Act) (R : Act → World → Prop),
    a.tmps[dj]? = some (.bool b) → (∀ s ∈ seen, yielded ops a.tmps s = none ∧ ∀ d, (ops[s]?).bind (·.dst) = some d → d ∉ dstsOf ops (spanGrp ops j want seen l).1) → dj ∉ dstsOf ops (spanGrp ops j want seen l).1 → nodupN (dstsOf ops (spanGrp ops j want seen l).1) = true →
    (∀ a', Keep (dstsOf ops (spanGrp ops j want seen l).1) a a' → a'.defers = a.defers → R a' w) → seqH P ops S Q (spanGrp ops j want seen l).1 R a w
  | [], seen, a, R, _, _, _, _, hR => hR a (Keep.refl _ _) rfl
  | (i, kd) :: rest, seen, a, R, ha, hseen, hdn, hnd, hR => by
    unfold spanGrp at hseen hdn hnd hR ⊢
    cases ho : ops[i]? with
    | none => simp only [ho] at hR ⊢; exact hR a (Keep.refl _ _) rfl
    | some o =>
      simp only [ho] at hseen hdn hnd hR ⊢
      cases hg : inGrp o j want seen with
      | false => simp only [hg] at hR ⊢; exact hR a (Keep.refl _ _) rfl
      | true =>
        simp only [hg] at hseen hdn hnd hR ⊢
        rw [dstsOf_cons ho] at hseen hdn hnd hR
        have hwant : Region.wanted o (yielded ops a.tmps) = false := by
          unfold inGrp at hg
          unfold Region.wanted
          cases hgd : o.guard with
          | none => rw [hgd] at hg; cases hg
          | some gw =>
            obtain ⟨j', w'⟩ := gw
            rw [hgd] at hg
            simp only [Bool.or_eq_true, Bool.and_eq_true, beq_iff_eq] at hg
            rcases hg with ⟨h1, h2⟩ | h
            · have := Nat.eq_of_beq_eq_true h1
              subst this; subst h2
              simp only [yields_bool hdj ha]
              simp [hb]
            · obtain ⟨s, hs, hsb⟩ := List.any_eq_true.1 h
              have := Nat.eq_of_beq_eq_true hsb
              subst this
              simp [(hseen _ hs).1]
        obtain ⟨hnd', hdisj⟩ := nodupN_append hnd
        have hk : Keep o.dst.toList a (a.put o.dst undef) := Keep.put _ _ _ _ (fun t ht => by simp [ht])
        have hrest : seqH P ops S Q (spanGrp ops j want (i :: seen) rest).1 R (a.put o.dst undef) w := by
          refine skip_sound hdj hb rest (i :: seen) (a.put o.dst undef) R ?_ ?_ (fun h => hdn (List.mem_append_right _ h)) hnd' ?_
          · rw [hk.2 dj (fun h => hdn (List.mem_append_left _ h))]; exact ha
          · intro s hs
            rcases List.mem_cons.1 hs with rfl | hs
            · refine ⟨yields_undef ho, fun d hd => ?_⟩
              simp only [ho, Option.bind_some] at hd
              exact hdisj d (by simp [hd])
            · obtain ⟨h1, h2⟩ := hseen s hs
              exact ⟨by rw [yields_keep hk (fun d hd h => h2 d hd (List.mem_append_left _ h))]; exact h1, fun d hd h => h2 d hd (List.mem_append_right _ h)⟩
          · intro a' hk' hd'
            refine hR a' ((hk.mono fun t ht => List.mem_append_left _ ht).trans (hk'.mono fun t ht => List.mem_append_right _ ht)) ?_
            rw [hd']
            cases o.dst <;> rfl
        cases kd with
        | flt => exact ⟨o, undef, ho, .inr ⟨hwant, rfl⟩, hrest⟩
        | eff => exact .inl ⟨o, ho, hwant, hrest⟩
        | brk => exact .inl ⟨o, ho, hwant, hrest⟩

theorem pickOf_spec {o : Oper} {want : Bool} {c x d : Nat} (h : pickOf o want = some (c, x, d)) : o.dst = some d ∧ ((want = true ∧ o.op = .pick (.tmp c) (.tmp x) (.const (.bool false))) ∨ (want = false ∧ o.op = .pick (.tmp c) (.const (.bool true)) (.tmp x))) := by
  unfold pickOf at h
  split at h
  · rename_i h1 h2; simp at h; obtain ⟨rfl, rfl, rfl⟩ := h; exact ⟨h2, .inl ⟨rfl, h1⟩⟩
  · rename_i h1 h2; simp at h; obtain ⟨rfl, rfl, rfl⟩ := h; exact ⟨h2, .inr ⟨rfl, h1⟩⟩
  · cases h

theorem getD_of {t : Array Value} {i : Nat} {v : Value} (h : t[i]? = some v) : t.getD i undef = v := by
  simp [Array.getElem?_eq_some_iff] at h
  obtain ⟨h1, h2⟩ := h
  simp [Array.getD, h1, h2]

/-- 'x && y' when both are known. -/
theorem pick_run {o : Oper} {want : Bool} {c x d : Nat} (h : pickOf o want = some (c, x, d)) {a : Act} {b : Bool} (hc : a.tmps[c]? = some (.bool b)) (r : Bool) (hr : b = want → a.tmps[x]? = some (.bool r)) (hr' : b = !want → r = b) (w : World) :
    (execOp a.eval o).run P w = .ok (.value (.bool r)) w := by
  obtain ⟨_, hp⟩ := pickOf_spec h
  have ec : a.eval (.tmp c) = .bool b := getD_of hc
  rcases hp with ⟨rfl, hp⟩ | ⟨rfl, hp⟩
  · unfold execOp; rw [hp]; simp only [ec]
    show Sem.run P (pure (Next.value (if b = true then a.eval (.tmp x) else a.eval (.const (.bool false))))) w = _
    cases b with
    | true => have := hr rfl; rw [if_pos rfl]; rw [show a.eval (.tmp x) = .bool r from getD_of this]; rfl
    | false => have := hr' rfl; subst this; rfl
  · unfold execOp; rw [hp]; simp only [ec]
    show Sem.run P (pure (Next.value (if b = true then a.eval (.const (.bool true)) else a.eval (.tmp x)))) w = _
    cases b with
    | false => have := hr rfl; rw [if_neg (by simp)]; rw [show a.eval (.tmp x) = .bool r from getD_of this]; rfl
    | true => have := hr' rfl; subst this; rfl
end

/-- The slots that a region writes are there. -/
def InB (ops : Array Oper) (m : Nat) : Prop := ∀ (i : Nat) (o : Oper) (t : Nat), ops[i]? = some o → o.dst = some t → t < m

theorem dList_sound {P : Program} {ops : Array Oper} {W : World} {hs : PH} {Q : Exit → Act → World → Prop} {m : Nat} (hm : InB ops m) : ∀ (n : Nat) (G : List (Nat × Bool)) (l : Items) (e : Env) (h : PH) (K : Env → PH → Prop) (a : Act) (w : World) (R : Act → World → Prop),
    dList P ops hs n G l e h K → Fits e a → St W h w → m ≤ a.tmps.size → (∀ g ∈ G, ∃ d, (ops[g.1]?).bind (·.dst) = some d ∧ d ∉ dstsOf ops l ∧ a.tmps[d]? = some (.bool g.2)) →
    (∀ e' h' a' w', Fits e' a' → St W h' w' → Keep (dstsOf ops l) a a' → K e' h' → R a' w') → seqH P ops (St W hs) Q l R a w := by
  intro n
  induction n with
  | zero => intro G l e h K a w R hd; exact hd.elim
  | succ n ih =>
    intro G l e h K a w R hd hf st hsz hG hR
    cases l with
    | nil => exact hR e h a w hf st (Keep.refl _ _) hd
    | cons p rest =>
      obtain ⟨i, kd⟩ := p
      unfold dList at hd
      cases ho : ops[i]? with
      | none => simp only [ho] at hd
      | some o =>
        simp only [ho] at hd
        rw [dstsOf_cons ho] at hG hR
        -- one operation that is wanted
        have step : Region.wanted o (yielded ops a.tmps) = true → stepD P o kd hs e h (fun v h' => dList P ops hs n G rest (e.put o.dst v) h' K) → seqH P ops (St W hs) Q ((i, kd) :: rest) R a w := by
          intro hw hd
          have go : ∀ v h' w', St W h' w' → dList P ops hs n G rest (e.put o.dst v) h' K → seqH P ops (St W hs) Q rest R (a.put o.dst v) w' := by
            intro v h' w' st' hd
            have hk : Keep o.dst.toList a (a.put o.dst v) := Keep.put _ _ _ _ (fun t ht => by simp [ht])
            refine ih G rest (e.put o.dst v) h' K (a.put o.dst v) w' R hd (hf.put o.dst v fun t ht => Nat.lt_of_lt_of_le (hm i o t ho ht) hsz) st' (by rw [hk.1]; exact hsz) ?_ ?_
            · intro g hg
              obtain ⟨d, h1, h2, h3⟩ := hG g hg
              exact ⟨d, h1, fun hx => h2 (List.mem_append_right _ hx), by rw [hk.2 d (fun hx => h2 (List.mem_append_left _ hx))]; exact h3⟩
            · intro e' h'' a' w'' hf' st'' hk' hK
              exact hR e' h'' a' w'' hf' st'' ((hk.mono fun t ht => List.mem_append_left _ ht).trans (hk'.mono fun t ht => List.mem_append_right _ ht)) hK
          cases kd with
          | flt =>
            obtain ⟨v, hK, hr⟩ := fOp_sound (show fOp P o e hs fun v => dList P ops hs n G rest (e.put o.dst v) h K from hd)
            exact ⟨o, v, ho, .inl ⟨hw, fun w' st' => hr W a w' hf st'⟩, go v h w st hK⟩
          | eff =>
            refine .inr ⟨o, ho, hw, Oper.wp_mono ?_ (aOp_sound (show aOp P o e h fun v h' => hs.le h' ∧ dList P ops hs n G rest (e.put o.dst v) h' K from hd) hf st Q)⟩
            rintro a' w' ⟨v, h', rfl, st', hle, hK⟩
            exact ⟨st'.le hle, go v h' w' st' hK⟩
          | brk =>
            refine .inr ⟨o, ho, hw, Oper.wp_mono ?_ (aOp_sound (show aOp P o e h fun v h' => dList P ops hs n G rest (e.put o.dst v) h' K from hd) hf st Q)⟩
            rintro a' w' ⟨v, h', rfl, st', hK⟩
            exact go v h' w' st' hK
        cases hgd : o.guard with
        | none => simp only [hgd] at hd; exact step (by unfold Region.wanted; rw [hgd]) hd
        | some gw =>
          obtain ⟨j, want⟩ := gw
          simp only [hgd] at hd
          cases hin : inG G j want with
          | true =>
            simp only [hin] at hd
            refine step ?_ hd
            unfold inG at hin
            obtain ⟨g, hg, hgb⟩ := List.any_eq_true.1 hin
            simp only [Bool.and_eq_true, beq_iff_eq] at hgb
            have e1 : g.1 = j := Nat.eq_of_beq_eq_true hgb.1
            obtain ⟨d, h1, _, h3⟩ := hG g hg
            unfold Region.wanted; rw [hgd]
            rw [← e1, ← hgb.2]
            simp only [yields_bool h1 h3]
            simp
          | false =>
            simp only [hin] at hd
            cases hdj : (ops[j]?).bind (·.dst) with
            | none => simp only [hdj] at hd
            | some dj =>
              simp only [hdj] at hd
              split at hd
              · rename_i b grp ip kp rest' hb hspan
                split at hd
                · exact hd.elim
                · rename_i op hop
                  split at hd
                  · exact hd.elim
                  · rename_i c dx dp hpick
                    split at hd
                    · rename_i hcond
                      simp only [Bool.and_eq_true, Bool.not_eq_true'] at hcond
                      obtain ⟨⟨⟨⟨hc1, hc2⟩, hc3⟩, hc4⟩, hc5⟩ := hcond
                      have hcdj : c = dj := Nat.eq_of_beq_eq_true hc1
                      subst hcdj
                      have hdn : c ∉ dstsOf ops grp := fun hm => by
                        have := List.any_eq_false.1 hc2 c hm
                        simp at this
                      have happ := spanGrp_append ops j want ((i, kd) :: rest) []
                      rw [hspan] at happ
                      simp only [] at happ
                      have hall : o.dst.toList ++ dstsOf ops rest = dstsOf ops grp ++ (dp :: dstsOf ops rest') := by
                        rw [← dstsOf_cons (kd := kd) ho, ← happ]
                        unfold dstsOf
                        rw [List.filterMap_append]
                        congr 1
                        have := dstsOf_cons (kd := kp) (l := rest') hop
                        unfold dstsOf at this
                        rw [this, (pickOf_spec hpick).1]; rfl
                      rw [hall] at hG hR
                      have hab : a.tmps[c]? = some (.bool b) := hf.g c _ hb
                      rw [← happ, seqH_append]
                      -- the pick, and what follows
                      have tail : ∀ (r : Bool) (h' : PH) (a' : Act) (w' : World), Keep (dstsOf ops grp) a a' → St W h' w' → (b = want → a'.tmps[dx]? = some (.bool r)) → (b = !want → r = b) →
                          dList P ops hs n G rest' ((dp, .bool r) :: e.drop (dstsOf ops grp)) h' K → seqH P ops (St W hs) Q ((ip, kp) :: rest') R a' w' := by
                        intro r h' a' w' hk st' hx hx' hd
                        have hrun : ∀ w, (execOp a'.eval op).run P w = .ok (.value (.bool r)) w := fun w => pick_run hpick (by rw [hk.2 c hdn]; exact hab) r hx hx' w
                        have hdst := (pickOf_spec hpick).1
                        have hwp : Region.wanted op (yielded ops a'.tmps) = true := by
                          unfold Region.wanted
                          cases hg : op.guard with
                          | none => rfl
                          | some gw =>
                            obtain ⟨j', w''⟩ := gw
                            rw [hg] at hc5
                            simp only [] at hc5
                            unfold inG at hc5
                            obtain ⟨g, hgm, hgb⟩ := List.any_eq_true.1 hc5
                            simp only [Bool.and_eq_true, beq_iff_eq] at hgb
                            obtain ⟨d, h1, h2, h3⟩ := hG g hgm
                            have e1 : g.1 = j' := Nat.eq_of_beq_eq_true hgb.1
                            rw [← e1, ← hgb.2]
                            have : a'.tmps[d]? = some (.bool g.2) := by rw [hk.2 d (fun hx => h2 (List.mem_append_left _ hx))]; exact h3
                            simp only [yields_bool h1 this]
                            simp
                        have hkp : Keep [dp] a' (a'.put op.dst (.bool r)) := Keep.put _ _ _ _ (fun t ht => by rw [hdst] at ht; simp at ht; simp [ht])
                        have hdl : dp < a'.tmps.size := by rw [hk.1]; exact Nat.lt_of_lt_of_le (hm ip op dp hop hdst) hsz
                        have hfit : Fits ((dp, .bool r) :: e.drop (dstsOf ops grp)) (a'.put op.dst (.bool r)) := by
                          have := (hf.drop hk).put (some dp) (.bool r) (fun t ht => by simp at ht; subst ht; exact hdl)
                          rw [hdst]; exact this
                        have hrest : seqH P ops (St W hs) Q rest' R (a'.put op.dst (.bool r)) w' := by
                          have hkk : Keep (dstsOf ops grp ++ [dp]) a (a'.put op.dst (.bool r)) := (hk.mono fun t ht => List.mem_append_left _ ht).trans (hkp.mono fun t ht => List.mem_append_right _ ht)
                          refine ih G rest' _ h' K _ w' R hd hfit st' (by rw [hkk.1]; exact hsz) ?_ ?_
                          · intro g hg
                            obtain ⟨d, h1, h2, h3⟩ := hG g hg
                            refine ⟨d, h1, fun hx => h2 (List.mem_append_right _ (List.mem_cons_of_mem _ hx)), ?_⟩
                            rw [hkk.2 d (fun hx => h2 ?_)]
                            · exact h3
                            · rcases List.mem_append.1 hx with hx | hx
                              · exact List.mem_append_left _ hx
                              · simp at hx; subst hx; exact List.mem_append_right _ (List.mem_cons_self ..)
                          · intro e' h'' a'' w'' hf' st'' hk' hK
                            refine hR e' h'' a'' w'' hf' st'' ((hkk.mono ?_).trans (hk'.mono fun t ht => List.mem_append_right _ (List.mem_cons_of_mem _ ht))) hK
                            intro t ht
                            rcases List.mem_append.1 ht with hx | hx
                            · exact List.mem_append_left _ hx
                            · simp at hx; subst hx; exact List.mem_append_right _ (List.mem_cons_self ..)
                        cases kp with
                        | eff => cases hc4
                        | flt => exact ⟨op, .bool r, hop, .inl ⟨hwp, fun w' _ => hrun w'⟩, hrest⟩
                        | brk =>
                          refine .inr ⟨op, hop, hwp, ?_⟩
                          unfold Oper.wp
                          rw [hrun]
                          exact hrest
                      by_cases hbw : b = want
                      · subst hbw
                        have hd1 := hd.1 rfl
                        refine ih ((j, b) :: G) grp e h _ a w _ hd1 hf st hsz ?_ ?_
                        · intro g hg
                          rcases List.mem_cons.1 hg with rfl | hg
                          · exact ⟨c, hdj, hdn, hab⟩
                          · obtain ⟨d, h1, h2, h3⟩ := hG g hg
                            exact ⟨d, h1, fun hx => h2 (List.mem_append_left _ hx), h3⟩
                        · intro e' h' a' w' hf' st' hk hK
                          split at hK
                          · rename_i r hr
                            exact tail r h' a' w' hk st' (fun _ => hf'.g dx _ hr) (fun x => by cases b <;> simp at x) hK
                          · exact hK.elim
                      · have hbn : b = !want := by cases b <;> cases want <;> simp_all
                        have hd2 := hd.2 hbn
                        have hg1 : grp = (spanGrp ops j want [] ((i, kd) :: rest)).1 := by rw [hspan]
                        rw [hg1]
                        refine skip_sound hdj hbw ((i, kd) :: rest) [] a _ hab (fun s hs => by cases hs) (by rw [← hg1]; exact hdn) (by rw [← hg1]; exact hc3) ?_
                        intro a' hk hdef
                        rw [← hg1] at hk
                        exact tail b h a' w hk st (fun x => absurd x hbw) (fun _ => rfl) hd2
                    · exact hd.elim
              · exact hd.elim

end Go.Sx
