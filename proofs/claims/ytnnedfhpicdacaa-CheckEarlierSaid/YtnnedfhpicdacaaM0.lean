/-
  The model of monitors as plain values: what its transitions do.
-/
import Derived.Test.YtnnedfhpicdacaaSx9
namespace Go.Md
open Go

structure Mo where
  owner : Int
  count : Int
  hash : Int
structure Ev where
  kind : Int
  thread : Int
  obj : Int
  arg : Int
  err : Int
/-- Of places: the object, the thread, and what is kept. -/
abbrev Pl (α : Type) := List (Int × Int × α)
structure Ms where
  most : Int
  mons : List Mo
  flags : List Bool
  waits : Pl Int
  left : Pl (Int × Int)

def Pl.find {α : Type} (l : Pl α) (o t : Int) : Option α := (List.find? (fun p => p.1 == o && p.2.1 == t) l).map (·.2.2)
def Pl.put {α : Type} : Pl α → Int → Int → α → Pl α
  | [], o, t, v => [(o, t, v)]
  | p :: l, o, t, v => if p.1 = o ∧ p.2.1 = t then (o, t, v) :: l else p :: Pl.put l o t v
def Pl.del {α : Type} : Pl α → Int → Int → Pl α
  | [], _, _ => []
  | p :: l, o, t => if p.1 = o ∧ p.2.1 = t then l else p :: Pl.del l o t

namespace Ms
def mon (s : Ms) (o : Int) : Mo := s.mons.getD o.toNat ⟨-1, 0, 0⟩
def setMon (s : Ms) (o : Int) (m : Mo) : Ms := { s with mons := s.mons.set o.toNat m }
def flag (s : Ms) (t : Int) : Bool := s.flags.getD t.toNat false
def setFlag (s : Ms) (t : Int) (b : Bool) : Ms := { s with flags := s.flags.set t.toNat b }
def isThread (s : Ms) (t : Int) : Bool := decide (0 ≤ t) && decide (t ≤ (s.flags.length : Int) - 1)
def isObj (s : Ms) (o : Int) : Bool := decide (0 ≤ o) && decide (o ≤ (s.mons.length : Int) - 1)
def owns (s : Ms) (e : Ev) : Bool := (s.mon e.obj).owner == e.thread
def others (s : Ms) (e : Ev) : Bool := !s.owns e && (s.mon e.obj).owner != -1
def waiters (s : Ms) (o : Int) : List Int := (s.waits.filter fun p => p.1 == o).map (·.2.1)
def leavers (s : Ms) (o : Int) : List Int := (s.left.filter fun p => p.1 == o).map (·.2.1)

def enter (s : Ms) (e : Ev) : Option Ms :=
  if e.err = 0 then (if s.others e || (s.mon e.obj).count == s.most then none else some (s.setMon e.obj { s.mon e.obj with owner := e.thread, count := IntKind.wrap .i64 ((s.mon e.obj).count + 1) }))
  else if e.err = 10 then (if s.owns e && (s.mon e.obj).count == s.most then some s else none)
  else if e.err = 11 then (if e.kind == 1 && s.others e then some s else none)
  else if e.err = 14 then (if e.kind == 2 && s.others e then some s else none)
  else none
def exit (s : Ms) (e : Ev) : Option Ms :=
  if e.err = 9 then (if s.owns e then none else some s)
  else if e.err != 0 || !s.owns e then none
  else some (s.setMon e.obj { s.mon e.obj with count := IntKind.wrap .i64 ((s.mon e.obj).count - 1), owner := if IntKind.wrap .i64 ((s.mon e.obj).count - 1) = 0 then -1 else (s.mon e.obj).owner })
def begin (s : Ms) (e : Ev) : Option Ms :=
  if e.err = 9 then (if s.owns e then none else some s)
  else if e.err = 11 then (if s.owns e then some s else none)
  else if e.err = 12 then (if s.owns e && s.flag e.thread then some (s.setFlag e.thread false) else none)
  else if e.err = 0 then (if s.owns e then some { (s.setMon e.obj ⟨-1, 0, (s.mon e.obj).hash⟩) with waits := s.waits.put e.obj e.thread (s.mon e.obj).count } else none)
  else none
def leave (s : Ms) (o t why : Int) : Option Ms :=
  match s.waits.find o t with
  | none => none
  | some n => some { s with waits := s.waits.del o t, left := s.left.put o t (n, why) }
def fin (s : Ms) (e : Ev) : Option Ms :=
  match s.left.find e.obj e.thread with
  | none => none
  | some l =>
    if (s.mon e.obj).owner != -1 || l.2 != e.err then none
    else
      let s1 : Ms := { (s.setMon e.obj { s.mon e.obj with owner := e.thread, count := l.1 }) with left := s.left.del e.obj e.thread }
      some (if e.err = 12 then s1.setFlag e.thread false else s1)
def tell (s : Ms) (e : Ev) : Option Ms :=
  if e.kind = 7 then (if e.err == 0 && s.owns e then s.leave e.obj e.arg 0 else none)
  else if e.err = 9 then (if !s.owns e && (e.kind == 9 && e.arg == 0 || e.kind == 8 && e.arg == -1) then some s else none)
  else if e.err != 0 || !s.owns e then none
  else if e.kind = 9 then (if e.arg == 0 && (s.waiters e.obj).length == 0 then some s else none)
  else if s.isThread e.arg || e.arg == -1 && (s.waiters e.obj).length == 0 then some s else none
def hash (s : Ms) (e : Ev) : Option Ms :=
  if e.err = 11 then (if e.arg == 0 && (s.mon e.obj).owner != -1 then some s else none)
  else if e.err != 0 || !(decide (1 ≤ e.arg) && decide (e.arg ≤ 2147483647)) || (s.mon e.obj).hash != 0 && (s.mon e.obj).hash != e.arg then none
  else some (s.setMon e.obj { s.mon e.obj with hash := e.arg })
def holds (s : Ms) (e : Ev) : Option Ms :=
  if e.err == 0 && (e.arg == 1 && s.owns e || e.arg == 0 && !s.owns e) then some s else none
def apply (s : Ms) (e : Ev) : Option Ms :=
  if e.kind = 1 ∨ e.kind = 2 then (if e.arg = 0 then s.enter e else none)
  else if e.kind = 3 then (if e.arg = 0 then s.exit e else none)
  else if e.kind = 4 then (if e.arg = 0 then s.begin e else none)
  else if e.kind = 5 then (if e.arg == 0 && (e.err == 13 || e.err == 12 && s.flag e.thread) then s.leave e.obj e.thread e.err else none)
  else if e.kind = 6 then (if e.arg = 0 then s.fin e else none)
  else if e.kind = 7 ∨ e.kind = 8 ∨ e.kind = 9 then s.tell e
  else if e.kind = 10 then s.hash e
  else if e.kind = 11 then s.holds e
  else if e.kind = 12 then (if e.err != 0 || !s.isThread e.arg then none else some (s.setFlag e.arg true))
  else none
def gone (s : Ms) (t : Int) : Bool := (List.range s.mons.length).any fun o => (s.waits.find o t).isSome || (s.left.find o t).isSome
def may (s : Ms) (e : Ev) : Bool := s.isThread e.thread && s.isObj e.obj && (e.kind == 5 || e.kind == 6 || !s.gone e.thread)
/-- A transition: what it answers, and the model behind it. -/
def step (s : Ms) (e : Ev) : Option Ms := if s.may e then s.apply e else none
def next (s : Ms) (e : Ev) : Ms := (s.step e).getD s
def code (s : Ms) (e : Ev) : Int := if (s.step e).isSome then 0 else 15
end Ms
def Ms.new (t o c : Int) : Ms := ⟨c, List.replicate o.toNat ⟨-1, 0, 0⟩, List.replicate t.toNat false, [], []⟩

end Go.Md
