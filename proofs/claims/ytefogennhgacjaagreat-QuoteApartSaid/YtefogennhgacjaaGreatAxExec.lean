/- AX: the executor. -/
import Derived.Test.YtefogennhgacjaaGreatAxOps
namespace Go.Ax
set_option linter.unusedSimpArgs false
set_option linter.unusedVariables false
open Go

inductive X where
  | normal
  | exit (id : Nat)
  | ret

def nthOp : List Oper → Nat → Option Oper
  | [], _ => none
  | o :: _, 0 => some o
  | _ :: l, n + 1 => nthOp l n

/-- Is the operation asked for? -/
def wantedA (ops : List Oper) (o : Oper) (f : AF) : Bool := match o.guard with
  | none => true
  | some (j, want) => match nthOp ops j with
    | none => false
    | some p => match p.dst with
      | none => false
      | some d => match f.get d with
        | .bool b => b == want
        | _ => false

def evalO (f : AF) : Option Operand → Option (Option Value)
  | none => some none
  | some x => match f.eval x with
    | some v => some (some v)
    | none => none

def closedO : Option Value → Bool
  | none => true
  | some v => closed v

/-- An element's type: its zero value is of its size; n of them are far from what no memory bears. -/
def okElem (P : Program) (e : TypeId) (sz bytes n : Nat) : Bool := match zeroOf P e with
  | some z => Nat.beq (cellsOf z).length sz && Nat.ble n 16777216 && Nat.ble bytes 1048576 && Nat.blt 0 sz && Nat.blt 0 bytes
  | none => false

def lenFits : TypeDesc → Value → Bool
  | .string, .string _ => true
  | .slice _, .slice _ _ _ => true
  | .map _ _, .map _ => true
  | _, _ => false

/-- The builtin functions. -/
def aBuiltin (P : Program) (b : Builtin) (tys : List TypeId) (args : List Value) : A Value := match b, args with
  | .len, [x] => match (match tys with | t :: _ => (match pv P (underlying t) with | some d => lenFits d x | none => false) | [] => false) with
    | false => .fail
    | true => match aLen x with
      | some n => .ret (.int .i64 n)
      | none => match x with
        | .map none => .ret (.int .i64 0)
        | .map (some r) => .rd r fun
          | .map es _ => .ret (.int .i64 es.length)
          | _ => .fail
        | _ => .fail
  | .cap, [x] => match x, tys with
    | .slice none 0 0, [t] => match elemOfSlice P t with
      | some _ => .ret (.int .i64 0)
      | none => .fail
    | .slice (some ⟨_, _, none⟩) _ c, [t] => match elemOfSlice P t with
      | some _ => .ret (.int .i64 c)
      | none => .fail
    | _, _ => .fail
  | .append, [s, x] => match tys with
    | [t, u] => match elemOfSlice P t, pv P (underlying u) with
      | some _, some (.int _) => .fail
      | some e, some _ => match pv P (sizeOf e), pv P (typeInfo e), aLen x, aLen s with
        | some sz, some ti, some n, some m => match okElem P e sz ti.bytes (m + n) with
          | true => (aFirst sz n x).bind fun new => match Nat.beq new.length (n * sz) with
            | true => aAppend sz s n new
            | false => .fail
          | false => .fail
        | _, _, _, _ => .fail
      | _, _ => .fail
    | _ => .fail
  | .copy, [d, s] => match tys with
    | t :: _ => match elemOfSlice P t with
      | some e => match pv P (sizeOf e), aLen d, aLen s with
        | some sz, some m, some n => match Nat.min n m with
          | 0 => match d with
            | .slice _ _ _ => .ret (.int .i64 0)
            | _ => .fail
          | k + 1 => (aFirst sz (k + 1) s).bind fun new => match d with
            | .slice (some ⟨i, o, _⟩) _ _ => (stCells i o new).bind fun _ => .ret (.int .i64 (k + 1 : Nat))
            | _ => .fail
        | _, _, _ => .fail
      | none => .fail
    | _ => .fail
  | .min, l => A.ofOpt (match closed.closedL l with | true => ofPv (pv P (Builtin.min_ #[] 0 ⟨l⟩)) | false => none)
  | .max, l => A.ofOpt (match closed.closedL l with | true => ofPv (pv P (Builtin.max_ #[] 0 ⟨l⟩)) | false => none)
  | .clear, [x] => match tys with
    | [t] => match pv P (underlying t) with
      | none => .fail
      | some _ => match x with
        | .slice none 0 0 => .ret (.tuple #[])
        | .slice (some ⟨i, o, _⟩) n _ => match n with
          | 0 => .ret (.tuple #[])
          | n + 1 => match elemOfSlice P t with
            | some e => match zeroOf P e with
              | some z => (stCells i o (rep (cellsOf z) (n + 1))).bind fun _ => .ret (.tuple #[])
              | none => .fail
            | none => .fail
        | _ => .fail
    | _ => .fail
  | _, _ => .fail

/-- The operations that are no calls of functions. -/
def aOp (P : Program) (f : AF) (o : Op) : A Value := match o with
  | .move x => A.ofOpt (f.eval x)
  | .assign x => A.ofOpt (f.eval x)
  | .pick c a b => match f.eval c with
    | some (.bool true) => A.ofOpt (f.eval a)
    | some (.bool false) => A.ofOpt (f.eval b)
    | _ => .fail
  | .alloc e => match zeroOf P e with
    | some z => .nw (.cells (cellsOf z)) fun j => .ret (.pointer (some ⟨j, 0, none⟩))
    | none => .fail
  | .box _ x => match f.eval x with
    | some v => match plains (cellsOf v) with
      | true => .nw (.cells (cellsOf v)) fun j => .ret (.pointer (some ⟨j, 0, none⟩))
      | false => .fail
    | none => .fail
  | .build t parts => match evals f (parts.toList.map (·.2)) with
    | some vs => A.ofOpt (aBuild P t ((parts.toList.map (·.1)).zip vs))
    | none => .fail
  | .buildSlice t n parts => match evals f (parts.toList.map (·.2)) with
    | some vs => aBuildSlice P t n ((parts.toList.map (·.1)).zip vs)
    | none => .fail
  | .load t a => match f.eval a with
    | some a => aLoad P t a
    | none => .fail
  | .store t a x => match f.eval a, f.eval x with
    | some a, some v => (aStore P t a v).bind fun _ => .ret undef
    | _, _ => .fail
  | .nilCheck x => match f.eval x with
    | some v => A.ofOpt (aNilCheck v)
    | none => .fail
  | .binOp op t x y _ => match f.eval x, f.eval y with
    | some a, some b => A.ofOpt (aBin P op t x y a b)
    | _, _ => .fail
  | .unOp op _ x => match f.eval x with
    | some v => match closed v with
      | true => A.ofOpt (ofPv (pv P (Op.unary op v)))
      | false => .fail
    | none => .fail
  | .convert s d x => match f.eval x with
    | some v => match closed v with
      | true => A.ofOpt (ofPv (pv P (convert s d v)))
      | false => .fail
    | none => .fail
  | .makeInterface t x => match f.eval x, pv P (underlying t) with
    | some _, some (.interface _) => .fail
    | some v, some _ => .ret (.iface t v)
    | _, _ => .fail
  | .makeFunc (.func g) first captured => match evals f first.toList, evals f captured.toList with
    | some a, some b => .ret (.func (.func g) ⟨a⟩ ⟨b⟩)
    | _, _ => .fail
  | .makeSlice t l c => match f.eval l, f.eval c with
    | some l, some c => aMakeSlice P t l c
    | _, _ => .fail
  | .slice t x lo hi mx => match f.eval x, evalO f lo, evalO f hi, evalO f mx with
    | some v, some l, some h, some m => match v with
      | .string s => A.ofOpt (match closedO l && closedO h && closedO m with | true => ofPv (pv P (Instr.sliceAt t (.string s) l h m)) | false => none)
      | v => match elemOfSlice P t with
        | some e => match pv P (sizeOf e) with
          | some sz => match aSlice sz v l h m, m with
            | some r, _ => .ret r
            | none, none => aSliceFar sz v l h
            | none, some _ => .fail
          | none => .fail
        | none => .fail
    | _, _, _, _ => .fail
  | .fieldAddr t x n => match f.eval x with
    | some v => A.ofOpt (aFieldAddr P t v n)
    | none => .fail
  | .field t x n => match f.eval x with
    | some v => A.ofOpt (aField P t v n)
    | none => .fail
  | .indexAddr t x ix => match f.eval x, f.eval ix with
    | some v, some i => A.ofOpt (aIndexAddr P t v i)
    | _, _ => .fail
  | .index t x ix => match f.eval x, f.eval ix with
    | some v, some i => A.ofOpt (aIndex P t v i)
    | _, _ => .fail
  | .typeAssert x _ t ok => match f.eval x with
    | some v => A.ofOpt (aTypeAssert P v t ok)
    | none => .fail
  | .extract x n => match f.eval x with
    | some v => A.ofOpt (aExtract v n)
    | none => .fail
  | .call ⟨.builtin b, args, tys⟩ => match evals f args.toList with
    | some vs => aBuiltin P b tys.toList vs
    | none => .fail
  | .makeMap _ none => .nw (.map [] 0) fun j => .ret (.map (some j))
  | .lookup t x ix ok => match f.eval x, f.eval ix with
    | some m, some k => aLookup P t m k ok
    | _, _ => .fail
  | .mapUpdate t m k v => match f.eval m, f.eval k, f.eval v with
    | some m, some k, some v => aUpdate P t m k v
    | _, _, _ => .fail
  | .insert t m k v => match f.eval m, f.eval k, f.eval v with
    | some m, some k, some v => aUpdate P t m k v
    | _, _, _ => .fail
  | .range t x => match f.eval x with
    | some v => aRange P t v
    | none => .fail
  | .next x isS => match f.eval x with
    | some (.pointer (some ⟨i, 0, none⟩)) => match isS with
      | true => aNextStr i
      | false => aNextMap i
    | _ => .fail
  | .entry x => match f.eval x with
    | some (.pointer (some ⟨i, 0, none⟩)) => aEntry i
    | _ => .fail
  | _ => .fail

/-- A call's target: the function, and its arguments. -/
def aTarget (P : Program) (f : AF) (c : Call) : Option (FuncId × List Value) := match evals f c.args.toList with
  | none => none
  | some vs => match c.callee with
    | .value x => match f.eval x with
      | some (.func (.func g) ⟨first⟩ ⟨captured⟩) => some (g, (first ++ vs) ++ captured)
      | _ => none
    | .invoke r name => match f.eval r with
      | some (.iface t v) => match closed v with
        | true => match pv P (method (P.types.size + Made.depth) t v name) with
          | some (g, recv) => match closed recv with
            | true => some (g, recv :: vs)
            | false => none
          | none => none
        | false => none
      | _ => none
    | .builtin _ => none

def ofList : List Value → Nat → T Value → T Value
  | [], _, t => t
  | v :: l, n, t => ofList l (n + 1) (t.set n (some v))

def enterA (fn : Func) (args : List Value) : AF := ⟨ofList args 0 .nil, args.length + (fn.ntmps - args.length)⟩

def resultsA (P : Program) (f : AF) : List ResultVar → St → Option (List Value × St)
  | [], s => some ([], s)
  | .tmp t :: l, s => match resultsA P f l s with
    | some (vs, s1) => some (f.get t :: vs, s1)
    | none => none
  | .cell a t :: l, s => match (aLoad P t (f.get a)).run s with
    | some (v, s1) => match resultsA P f l s1 with
      | some (vs, s2) => some (v :: vs, s2)
      | none => none
    | none => none

def one : List Value → Value
  | [v] => v
  | l => .tuple ⟨l⟩

abbrev Ex := Code → AF → St → Option (X × AF × St)

/-- What a run has of the program: its functions, and calls whose results are known and that leave all as it was. -/
structure Tab where
  t : T Func
  kn : FuncId → List Value → Option Value

def callF0 (P : Program) (tab : Tab) (ih : Ex) (g : FuncId) (args : List Value) (s : St) : Option (Value × St) := match tab.t.get g with
  | none => none
  | some fn => match fn.body with
    | none => none
    | some c => match ih c (enterA fn args) s with
      | some (.normal, f1, s1) => match resultsA P f1 fn.results.toList s1 with
        | some (vs, s2) => some (one vs, s2)
        | none => none
      | some (.ret, f1, s1) => match resultsA P f1 fn.results.toList s1 with
        | some (vs, s2) => some (one vs, s2)
        | none => none
      | _ => none

def callF (P : Program) (tab : Tab) (ih : Ex) (g : FuncId) (args : List Value) (s : St) : Option (Value × St) := match tab.kn g args with
  | some v => some (v, s)
  | none => callF0 P tab ih g args s

def runOper (P : Program) (tab : Tab) (ih : Ex) (o : Oper) (f : AF) (s : St) : Option (Value × St) := match o.op with
  | .call c => match c.callee with
    | .builtin _ => (aOp P f o.op).run s
    | _ => match aTarget P f c with
      | some (g, args) => callF P tab ih g args s
      | none => none
  | op => (aOp P f op).run s

/-- An operation, if it is asked for. -/
def runOne (P : Program) (tab : Tab) (ih : Ex) (ops : List Oper) (o : Oper) (f : AF) (s : St) : Option (Value × St) := match wantedA ops o f with
  | true => runOper P tab ih o f s
  | false => some (undef, s)

def execOps (P : Program) (tab : Tab) (ih : Ex) (ops : List Oper) : List Oper → AF → St → Option (AF × St)
  | [], f, s => some (f, s)
  | o :: l, f, s => match runOne P tab ih ops o f s with
    | none => none
    | some (v, s1) => match f.put o.dst v with
      | none => none
      | some f1 => execOps P tab ih ops l f1 s1

/-- What an operation of a region that draws its order has done: which rows it read, which it wrote. -/
structure Did where
  i : Nat
  pr : List Nat
  rd : List Nat
  eff : List Nat

def hasN : List Nat → Nat → Bool
  | [], _ => false
  | x :: l, n => match Nat.beq x n with
    | true => true
    | false => hasN l n

def apartN : List Nat → List Nat → Bool
  | [], _ => true
  | x :: l, m => match hasN m x with
    | true => false
    | false => apartN l m

def predsGo (i : Nat) (acc : List (List Nat)) : List Edge → List Nat
  | [] => []
  | e :: l => match Region.binds .any e with
    | true => e.on :: ((acc[i - 1 - e.on]?.getD []) ++ predsGo i acc l)
    | false => predsGo i acc l

/-- What stands ahead of each operation; the last one first. -/
def preds : List Oper → Nat → List (List Nat) → List (List Nat)
  | [], _, acc => acc
  | o :: l, i, acc => preds l (i + 1) (predsGo i acc o.after.toList :: acc)

def allLt (n : Nat) : List Nat → Bool
  | [] => true
  | x :: l => Nat.blt x n && allLt n l

/-- May an operation change places with those ahead of it in the text (the last one first)? -/
def passOne (ops : Array Oper) (e : Oper) (pr : List Nat) : List (Nat × Oper) → Bool
  | [] => true
  | d :: l => match hasN pr d.1 with
    | true => passOne ops e pr l
    | false => match Oper.apart ops d.2 e with
      | true => passOne ops e pr l
      | false => false

def passAll (ops : Array Oper) : List Oper → Nat → List (List Nat) → List (Nat × Oper) → Bool
  | [], _, _, _ => true
  | _ :: _, _, [], _ => false
  | o :: l, i, pr :: prs, did => match allLt i pr with
    | false => false
    | true => match passOne ops o pr did with
      | false => false
      | true => passAll ops l (i + 1) prs ((i, o) :: did)

/-- What stands ahead of each operation of a region, if all that may change places are apart. -/
def statOf (ops : Array Oper) : Option (List (List Nat)) := match Region.noSelect ops && passAll ops ops.toList 0 (preds ops.toList 0 []).reverse [] with
  | true => some (preds ops.toList 0 []).reverse
  | false => none

/-- The check of what they read and wrote: 'd' stands ahead of 'e' in the text. -/
def mayPass (e d : Did) : Bool := match hasN e.pr d.i with
  | true => true
  | false => match apartN d.eff e.rd with
    | true => match apartN e.eff d.rd with
      | true => apartN d.eff e.eff
      | false => false
    | false => false

def mayAll (e : Did) : List Did → Bool
  | [] => true
  | d :: l => match mayPass e d with
    | true => mayAll e l
    | false => false

def logR : List Did → List Nat → List Nat
  | [], r => r
  | d :: l, r => d.rd ++ logR l r

def logW : List Did → List Nat → List Nat
  | [], r => r
  | d :: l, r => d.eff ++ logW l r

/-- A region that draws its order, in the text's order: 'did' the last one first. -/
def execDraw (P : Program) (tab : Tab) (ih : Ex) (ops : List Oper) (rl wl : List Nat) : List Oper → Nat → List (List Nat) → List Did → AF → T Row → Nat → Option (AF × St)
  | [], _, _, did, f, h, n => some (f, ⟨h, n, logR did rl, logW did wl⟩)
  | _ :: _, _, [], _, _, _, _ => none
  | o :: l, i, pr :: prs, did, f, h, n => match runOne P tab ih ops o f ⟨h, n, [], []⟩ with
      | none => none
      | some (v, ⟨h1, n1, rl1, wl1⟩) => match mayAll ⟨i, pr, rl1, wl1⟩ did with
        | false => none
        | true => match f.put o.dst v with
          | none => none
          | some f1 => execDraw P tab ih ops rl wl l (i + 1) prs (⟨i, pr, rl1, wl1⟩ :: did) f1 h1 n1

def stepCode (P : Program) (tab : Tab) (ih : Ex) : Ex
  | .skip, f, s => some (.normal, f, s)
  | .label _, f, s => some (.normal, f, s)
  | .seq a b, f, s => match ih a f s with
    | some (.normal, f1, s1) => ih b f1 s1
    | r => r
  | .cond c t e, f, s => match f.eval c with
    | some (.bool true) => ih t f s
    | some (.bool false) => ih e f s
    | _ => none
  | .block id b, f, s => match ih b f s with
    | some (.exit id', f1, s1) => match Nat.beq id' id with
      | true => some (.normal, f1, s1)
      | false => some (.exit id', f1, s1)
    | r => r
  | .loop b, f, s => match ih b f s with
    | some (.normal, f1, s1) => ih (.loop b) f1 s1
    | r => r
  | .scope b, f, s => ih b f s
  | .exit id, f, s => some (.exit id, f, s)
  | .ret, f, s => some (.ret, f, s)
  | .region _ ops false, f, s => match execOps P tab ih ops.toList ops.toList f s with
    | some (f1, s1) => some (.normal, f1, s1)
    | none => none
  | .region _ ops true, f, ⟨h, n, rl, wl⟩ => match statOf ops with
    | some prs => match execDraw P tab ih ops.toList rl wl ops.toList 0 prs [] f h n with
      | some (f1, s1) => some (.normal, f1, s1)
      | none => none
    | none => none
  | _, _, _ => none

def exec (P : Program) (tab : Tab) : Nat → Ex
  | 0, _, _, _ => none
  | n + 1, c, f, s => stepCode P tab (exec P tab n) c f s

/-- A function, called. -/
def runF (P : Program) (tab : Tab) (fuel : Nat) (g : FuncId) (args : List Value) : Option (Value × St) := callF P tab (exec P tab fuel) g args ⟨.nil, 0, [], []⟩

end Go.Ax
