/-
  The log of what was done, as plain values.
-/
import Derived.Test.YtnnedfhpicdacaaM0
namespace Go.Gh
open Go Go.Md

structure Oq where
  kind : Int
  obj : Int
  arg : Int
structure Th where
  op : Oq
  calls : Int
  opn : Bool
  many : Int
  last : Ev
structure En where
  kind : Int
  thread : Int
  number : Int
  op : Oq
  event : Ev
  value : Int
  err : Int
structure Gs where
  objects : Int
  model : Ms
  threads : List Th
  entries : List En

def op0 : Oq := ⟨0, 0, 0⟩
def ev0 : Ev := ⟨0, 0, 0, 0, 0⟩
def th0 : Th := ⟨op0, 0, false, 0, ev0⟩

def commitOf (k : Int) : Int :=
  if k = 1 then 1 else if k = 2 then 2 else if k = 3 then 3 else if k = 4 then 6 else if k = 5 then 8 else if k = 6 then 9 else if k = 7 then 10 else if k = 8 then 11 else if k = 9 then 12 else 0

/-- Whether an operation may be, of so many objects and threads. -/
def mayOp (objects threads : Int) (o : Oq) : Bool :=
  if (commitOf o.kind == 0 || decide (o.obj < 0) || decide (o.obj ≥ objects) || decide (o.arg < 0)) = true then false
  else if o.kind = 9 then decide (o.arg < threads)
  else if o.kind = 4 then true
  else o.arg == 0

def En.bare (e : En) : Bool :=
  if e.kind = 1 then (e.event.kind == 0 && e.event.thread == 0 && e.event.obj == 0 && e.event.arg == 0 && e.event.err == 0 && e.value == 0 && e.err == 0)
  else if e.kind = 2 then (e.thread == e.event.thread && e.number == 0 && e.op.kind == 0 && e.op.obj == 0 && e.op.arg == 0 && e.value == 0 && e.err == 0)
  else if e.kind = 3 then (e.op.kind == 0 && e.op.obj == 0 && e.op.arg == 0 && e.event.kind == 0 && e.event.thread == 0 && e.event.obj == 0 && e.event.arg == 0 && e.event.err == 0)
  else false

def Th.of (t : Th) (e : Ev) : Bool := if t.op.kind = 9 then e.obj == 0 && e.arg == t.op.arg else e.obj == t.op.obj
def Th.waits (t : Th) (e : Ev) : Bool :=
  if t.many = 0 then e.kind == 4
  else if (t.last.kind == 4 && t.last.err == 0) = true then e.kind == 5 || e.kind == 6
  else t.last.kind == 5 && e.kind == 6
def Th.tells (t : Th) (e : Ev) : Bool :=
  if (decide (t.many > 0) && t.last.kind != 7) = true then false
  else if e.kind = 7 then t.op.kind == 6 || !decide (t.many > 0)
  else if (e.kind != commitOf t.op.kind) = true then false
  else if t.op.kind = 6 then true
  else if t.many > 0 then e.arg == t.last.arg
  else e.arg == -1
def Th.takes (t : Th) (e : Ev) : Bool :=
  if (!t.opn || !t.of e) = true then false
  else if t.op.kind = 4 then t.waits e
  else if t.op.kind = 5 ∨ t.op.kind = 6 then t.tells e
  else t.many == 0 && e.kind == commitOf t.op.kind
def Th.told (t : Th) : Int × Int × Bool :=
  if (!t.opn || t.many == 0) = true then (0, 0, false)
  else if t.op.kind = 4 then (0, t.last.err, t.last.kind == commitOf t.op.kind || t.last.kind == 4 && t.last.err != 0)
  else if t.op.kind = 6 then (IntKind.wrap .i64 (t.many - 1), t.last.err, t.last.kind == commitOf t.op.kind)
  else if t.op.kind = 5 ∨ t.op.kind = 7 ∨ t.op.kind = 8 then (t.last.arg, t.last.err, t.last.kind == commitOf t.op.kind)
  else (0, t.last.err, t.last.kind == commitOf t.op.kind)

namespace Gs
def th (g : Gs) (t : Int) : Th := g.threads.getD t.toNat th0
def setTh (g : Gs) (t : Int) (x : Th) : Gs := { g with threads := g.threads.set t.toNat x }
def fits (g : Gs) (e : En) : Bool := e.bare && !decide (e.thread < 0) && !decide (e.thread ≥ (g.threads.length : Int))
/-- What an entry does; none: it is refused. -/
def turn (g : Gs) (e : En) : Option Gs :=
  if g.fits e = false then none
  else if e.kind = 1 then
    (if ((g.th e.thread).opn || e.number != (g.th e.thread).calls || !mayOp g.objects g.threads.length e.op) = true then none
     else some (g.setTh e.thread ⟨e.op, IntKind.wrap .i64 ((g.th e.thread).calls + 1), true, 0, ev0⟩))
  else if e.kind = 2 then
    (if (!(g.th e.thread).takes e.event || g.model.code e.event != 0) = true then none
     else some { (g.setTh e.thread { g.th e.thread with many := IntKind.wrap .i64 ((g.th e.thread).many + 1), last := e.event }) with model := g.model.next e.event })
  else if e.kind = 3 then
    (if (!(g.th e.thread).told.2.2 || e.number != IntKind.wrap .i64 ((g.th e.thread).calls - 1) || e.value != (g.th e.thread).told.1 || e.err != (g.th e.thread).told.2.1) = true then none
     else some (g.setTh e.thread ⟨op0, (g.th e.thread).calls, false, 0, ev0⟩))
  else some g
def add (g : Gs) (e : En) : Option Gs := (g.turn e).map fun g' => { g' with entries := g'.entries ++ [e] }
def next (g : Gs) (e : En) : Gs := (g.add e).getD g
def code (g : Gs) (e : En) : Int := if (g.add e).isSome then 0 else 15
end Gs
def Gs.new (t o c : Int) : Gs := ⟨o, Ms.new t o c, List.replicate t.toNat th0, []⟩

end Go.Gh
