/- AX: an executor over rows of cells for the translated programs: a state without addresses' numbers, capacities and orders. Here: its definitions. -/
import Derived.Calls
import Derived.Orders
import Derived.LoopN
import Derived.Scope
import Derived.Below
namespace Go.Ax
set_option linter.unusedSimpArgs false
set_option linter.unusedVariables false
open Go

/-- A map from numbers. -/
inductive T (α : Type) where
  | nil
  | node (v : Option α) (l r : T α)

def T.get {α : Type} : T α → Nat → Option α
  | .nil, _ => none
  | .node v l r, i => match i with
    | 0 => v
    | n + 1 => match Nat.beq (n % 2) 0 with
      | true => l.get (n / 2)
      | false => r.get (n / 2)

def T.setF {α : Type} : Nat → T α → Nat → Option α → T α
  | 0, t, _, _ => t
  | f + 1, .nil, i, x => match i with
    | 0 => .node x .nil .nil
    | n + 1 => match Nat.beq (n % 2) 0 with
      | true => .node none (T.setF f .nil (n / 2) x) .nil
      | false => .node none .nil (T.setF f .nil (n / 2) x)
  | f + 1, .node v l r, i, x => match i with
    | 0 => .node x l r
    | n + 1 => match Nat.beq (n % 2) 0 with
      | true => .node v (T.setF f l (n / 2) x) r
      | false => .node v l (T.setF f r (n / 2) x)

def T.set {α : Type} (t : T α) (i : Nat) (x : Option α) : T α := T.setF (Nat.succ i) t i x

/-- A row of memory: cells, a map, an iterator; cells that were there and stay as they are. -/
inductive Row where
  | cells (c : List Value)
  | map (es : List MapEntry) (clock : Nat)
  | strIter (s : ByteArray) (pos : Nat)
  | mapIter (m : Option Nat) (since : Nat) (seen : List Nat) (stepped : Nat)
  | ro (c : List Value)

/-- The state: the rows, the next number, which rows were read, and which were written. -/
structure St where
  h : T Row
  n : Nat
  rl : List Nat
  wl : List Nat

/-- What an operation asks of the rows. -/
inductive A (α : Type) where
  | ret (a : α)
  | fail
  | rd (i : Nat) (k : Row → A α)
  | wr (i : Nat) (r : Row) (k : A α)
  | kl (i : Nat) (k : A α)
  | nw (r : Row) (k : Nat → A α)

def A.bind {α β : Type} : A α → (α → A β) → A β
  | .ret a, f => f a
  | .fail, _ => .fail
  | .rd i k, f => .rd i fun r => (k r).bind f
  | .wr i r k, f => .wr i r (k.bind f)
  | .kl i k, f => .kl i (k.bind f)
  | .nw r k, f => .nw r fun i => (k i).bind f

def A.run {α : Type} : A α → St → Option (α × St)
  | .ret a, s => some (a, s)
  | .fail, _ => none
  | .rd i k, s => match s.h.get i with
    | some r => (k r).run ⟨s.h, s.n, i :: s.rl, s.wl⟩
    | none => none
  | .wr i r k, s => match s.h.get i with
    | some _ => k.run ⟨s.h.set i (some r), s.n, i :: s.rl, i :: s.wl⟩
    | none => none
  | .kl i k, s => match s.h.get i with
    | some _ => k.run ⟨s.h.set i none, s.n, i :: s.rl, i :: s.wl⟩
    | none => none
  | .nw r k, s => (k s.n).run ⟨s.h.set s.n (some r), s.n + 1, s.rl, s.n :: s.wl⟩

def A.ofOpt {α : Type} : Option α → A α
  | some a => .ret a
  | none => .fail

def A.chk {α : Type} (b : Bool) (k : A α) : A α := match b with
  | true => k
  | false => .fail

/-- What a computation without memory comes to. -/
def pv {α : Type} (P : Program) : Sem α → Option α
  | .pure a => some a
  | .program k => pv P (k P)
  | .mark _ k => pv P k
  | _ => none

/-- Has a value no address in it? -/
def closed : Value → Bool
  | .bool _ => true
  | .int _ _ => true
  | .string _ => true
  | .pointer none => true
  | .slice none 0 0 => true
  | .map none => true
  | .nilFunc => true
  | .nilIface => true
  | .agg ⟨l⟩ => closedL l
  | .tuple ⟨l⟩ => closedL l
  | .iface _ v => closed v
  | .func (.func _) ⟨l⟩ ⟨m⟩ => closedL l && closedL m
  | _ => false
where closedL : List Value → Bool
  | [] => true
  | v :: l => closed v && closedL l

/-- A value as cells. -/
def cellsOf : Value → List Value
  | .agg ⟨l⟩ => l
  | v => [v]

/-- Is a value one of one cell? -/
def plain : Value → Bool
  | .agg _ => false
  | .tuple _ => false
  | _ => true

def plains : List Value → Bool
  | [] => true
  | v :: l => plain v && plains l

/-- n cells from a place on. -/
def takeN : Nat → List Value → Option (List Value)
  | 0, _ => some []
  | _ + 1, [] => none
  | n + 1, v :: l => match takeN n l with
    | some r => some (v :: r)
    | none => none

def dropN : Nat → List Value → List Value
  | 0, l => l
  | _ + 1, [] => []
  | n + 1, _ :: l => dropN n l

def slab (l : List Value) (o n : Nat) : Option (List Value) := takeN n (dropN o l)

/-- Cells laid over others. -/
def over : List Value → List Value → Option (List Value)
  | [], l => some l
  | _ :: _, [] => none
  | v :: vs, _ :: l => match over vs l with
    | some r => some (v :: r)
    | none => none

def lay (vs : List Value) : Nat → List Value → Option (List Value)
  | 0, l => over vs l
  | _ + 1, [] => none
  | o + 1, x :: l => match lay vs o l with
    | some r => some (x :: r)
    | none => none

def ldCells (i o n : Nat) : A (List Value) :=
  .rd i fun
    | .cells c => A.ofOpt (slab c o n)
    | .ro c => A.ofOpt (slab c o n)
    | _ => .fail

def stCells (i o : Nat) (vs : List Value) : A Unit :=
  match plains vs with
  | false => .fail
  | true => .rd i fun
    | .cells c => match lay vs o c with
      | some c' => .wr i (.cells c') (.ret ())
      | none => .fail
    | _ => .fail

/-- A frame's slots. -/
structure AF where
  t : T Value
  n : Nat

def AF.get (f : AF) (i : Nat) : Value := match f.t.get i with
  | some v => v
  | none => undef

def AF.put (f : AF) (dst : Option Tmp) (v : Value) : Option AF := match dst with
  | none => some f
  | some d => match Nat.blt d f.n with
    | true => some ⟨f.t.set d (some v), f.n⟩
    | false => none

def AF.eval (f : AF) : Operand → Option Value
  | .tmp t => some (f.get t)
  | .const v => match closed v with
    | true => some v
    | false => none
  | .global _ => none
  | .func g => some (.func (.func g) #[] #[])

def evals (f : AF) : List Operand → Option (List Value)
  | [] => some []
  | x :: l => match f.eval x with
    | none => none
    | some v => match evals f l with
      | none => none
      | some vs => some (v :: vs)

end Go.Ax
