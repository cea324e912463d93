/- Quotes: facts of the seat's types, lists of quotes in memory. -/
import Derived.Test.YtefogennhgacjaaGreatQtKnown
import Derived.KernelRfl
namespace Go.Proofs.Qt
open Go Go.Ax Go.Proofs
set_option maxRecDepth 100000
set_option linter.unusedSimpArgs false
set_option linter.unusedVariables false

@[simp] theorem gv_tuple (a : Array Value) (w : Bool) : gv (.tuple a) w = false := rfl
@[simp] theorem undef_eq : (undef : Value) = .tuple #[] := rfl

structure Qo where
  id : Int
  member : Int
  side : Int
  basket : Int
  amount : Int
  rate : Int
  start : Int
  stop : Int
  deriving DecidableEq

def Qo.enc (q : Qo) : List Value := [.int .i64 q.id, .int .i64 q.member, .int .i64 q.side, .int .i64 q.basket, .int .i64 q.amount, .int .i64 q.rate, .int .i64 q.start, .int .i64 q.stop]
def Qo.val (q : Qo) : Value := .agg (List.toArray q.enc)

def flat : List Qo → List Value
  | [] => []
  | q :: l => q.enc ++ flat l

@[simp] theorem enc_length (q : Qo) : q.enc.length = 8 := rfl
theorem flat_length : ∀ (l : List Qo), (flat l).length = l.length * 8
  | [] => rfl
  | q :: l => by simp [flat, flat_length l]; omega
theorem flat_append : ∀ (a b : List Qo), flat (a ++ b) = flat a ++ flat b
  | [], b => rfl
  | q :: a, b => by simp [flat, flat_append a b]
@[simp] theorem plains_enc (q : Qo) : plains q.enc = true := rfl
@[simp] theorem plains_flat : ∀ (l : List Qo), plains (flat l) = true
  | [] => rfl
  | q :: l => by simp [flat, plains_append, plains_flat l]
theorem flat_one (q : Qo) : flat [q] = q.enc := by simp [flat]

theorem flat_at (l : List Qo) (j : Nat) (h : j < l.length) : flat l = flat (l.take j) ++ (l[j].enc ++ flat (l.drop (j + 1))) := by
  conv => lhs; rw [← List.take_append_drop j l]
  rw [flat_append, List.drop_eq_getElem_cons h]
  rfl

theorem slab8 {l : List Qo} {j : Nat} (h : j < l.length) (r : List Value) : slab (flat l ++ r) (j * 8) 8 = some l[j].enc := by
  refine slab_mid (a := flat (l.take j)) (b := flat (l.drop (j + 1)) ++ r) ?_ ?_ rfl
  · conv => lhs; rw [flat_at l j h]
    simp
  · rw [flat_length]; simp; omega
theorem slab1 {l : List Qo} {j : Nat} (h : j < l.length) (r a b : List Value) (v : Value) (k : Nat) (e : l[j].enc = a ++ ([v] ++ b)) (hk : k = a.length) : slab (flat l ++ r) (j * 8 + k) 1 = some [v] := by
  refine slab_mid (a := flat (l.take j) ++ a) (b := b ++ flat (l.drop (j + 1)) ++ r) ?_ ?_ rfl
  · conv => lhs; rw [flat_at l j h]
    rw [e]; simp
  · rw [List.length_append, flat_length]; simp; omega
theorem slab1_0 {l : List Qo} {j : Nat} (h : j < l.length) (r : List Value) : slab (flat l ++ r) (j * 8) 1 = some [.int .i64 l[j].id] := slab1 h r [] _ _ 0 rfl rfl
theorem slab1_1 {l : List Qo} {j : Nat} (h : j < l.length) (r : List Value) : slab (flat l ++ r) (j * 8 + 1) 1 = some [.int .i64 l[j].member] := slab1 h r [_] _ _ 1 rfl rfl
theorem slab1_4 {l : List Qo} {j : Nat} (h : j < l.length) (r : List Value) : slab (flat l ++ r) (j * 8 + 4) 1 = some [.int .i64 l[j].amount] := slab1 h r [_, _, _, _] _ _ 4 rfl rfl
theorem slab1_6 {l : List Qo} {j : Nat} (h : j < l.length) (r : List Value) : slab (flat l ++ r) (j * 8 + 6) 1 = some [.int .i64 l[j].start] := slab1 h r [_, _, _, _, _, _] _ _ 6 rfl rfl
attribute [simp] slab8 slab1_0 slab1_1 slab1_4 slab1_6

@[simp] theorem slabe_0 (q : Qo) : slab q.enc 0 1 = some [.int .i64 q.id] := rfl
@[simp] theorem slabe_1 (q : Qo) : slab q.enc 1 1 = some [.int .i64 q.member] := rfl
@[simp] theorem slabe_2 (q : Qo) : slab q.enc 2 1 = some [.int .i64 q.side] := rfl
@[simp] theorem slabe_3 (q : Qo) : slab q.enc 3 1 = some [.int .i64 q.basket] := rfl
@[simp] theorem slabe_4 (q : Qo) : slab q.enc 4 1 = some [.int .i64 q.amount] := rfl
@[simp] theorem slabe_5 (q : Qo) : slab q.enc 5 1 = some [.int .i64 q.rate] := rfl
@[simp] theorem slabe_6 (q : Qo) : slab q.enc 6 1 = some [.int .i64 q.start] := rfl
@[simp] theorem slabe_7 (q : Qo) : slab q.enc 7 1 = some [.int .i64 q.stop] := rfl
@[simp] theorem slabe (q : Qo) : slab q.enc 0 8 = some q.enc := rfl
@[simp] theorem slab_one (v : Value) : slab [v] 0 1 = some [v] := rfl
@[simp] theorem slab_two0 (v u : Value) : slab [v, u] 0 1 = some [v] := rfl
@[simp] theorem slab_two1 (v u : Value) : slab [v, u] 1 1 = some [u] := rfl
@[simp] theorem cellsOf_val (q : Qo) : cellsOf q.val = q.enc := rfl
@[simp] theorem cellsOf_agg (l : List Value) : cellsOf (.agg (List.toArray l)) = l := rfl
@[simp] theorem cellsOf_int (k : IntKind) (n : Int) : cellsOf (.int k n) = [.int k n] := rfl
@[simp] theorem plains_int (k : IntKind) (n : Int) (l : List Value) : plains (.int k n :: l) = plains l := rfl
@[simp] theorem plains_nil : plains [] = true := rfl
@[simp] theorem plain_slice (a : Option Addr) (n c : Nat) : plain (.slice a n c) = true := rfl
@[simp] theorem plain_int (k : IntKind) (n : Int) : plain (.int k n) = true := rfl
@[simp] theorem plain_bool (b : Bool) : plain (.bool b) = true := rfl
@[simp] theorem plain_open (i o sz n : Nat) : plain (openSl i o sz n) = true := rfl
@[simp] theorem lay_two0 (x a b : Value) : lay [x] 0 [a, b] = some [x, b] := rfl
@[simp] theorem lay_one (x a : Value) : lay [x] 0 [a] = some [x] := rfl
@[simp] theorem plains_one (v : Value) : plains [v] = plain v := by simp [plains]
theorem val_eq (q : Qo) : Value.agg (List.toArray q.enc) = q.val := rfl
attribute [simp] val_eq

abbrev ptr (i : Nat) (o : Nat) : Value := .pointer (some ⟨i, o, none⟩)

@[simp] theorem ld3 (i o : Nat) : aLoad Tryz.prog 3 (ptr i o) = (ldCells i o 1).bind headR := ld1_of (by kernel_rfl) i o
@[simp] theorem ld4 (i o : Nat) : aLoad Tryz.prog 4 (ptr i o) = (ldCells i o 1).bind headR := ld1_of (by kernel_rfl) i o
@[simp] theorem ld25 (i o : Nat) : aLoad Tryz.prog 25 (ptr i o) = (ldCells i o 1).bind headR := ld1_of (by kernel_rfl) i o
@[simp] theorem ld29 (i o : Nat) : aLoad Tryz.prog 29 (ptr i o) = (ldCells i o 8).bind fun l => .ret (.agg (List.toArray l)) := lda_of (by kernel_rfl) (by kernel_rfl) i o
@[simp] theorem st3 (i o : Nat) (k : IntKind) (n : Int) : aStore Tryz.prog 3 (ptr i o) (.int k n) = stCells i o [.int k n] := st1_of (by kernel_rfl) i o _ rfl
theorem st25 (i o : Nat) (v : Value) (h : plain v = true) : aStore Tryz.prog 25 (ptr i o) v = stCells i o [v] := st1_of (by kernel_rfl) i o _ h
@[simp] theorem st25s (i o : Nat) (a : Option Addr) (n c : Nat) : aStore Tryz.prog 25 (ptr i o) (.slice a n c) = stCells i o [.slice a n c] := st25 i o _ rfl
@[simp] theorem st25o (i o k sz n : Nat) : aStore Tryz.prog 25 (ptr i o) (openSl k 0 sz n) = stCells i o [openSl k 0 sz n] := st25 i o _ rfl
@[simp] theorem st29 (i o : Nat) (q : Qo) : aStore Tryz.prog 29 (ptr i o) q.val = stCells i o q.enc := sta_of (by kernel_rfl) i o _ rfl
@[simp] theorem fa29_0 (i o : Nat) : aFieldAddr Tryz.prog 29 (ptr i o) 0 = some (ptr i o) := by kernel_rfl
@[simp] theorem fa29_1 (i o : Nat) : aFieldAddr Tryz.prog 29 (ptr i o) 1 = some (ptr i (o + 1)) := by kernel_rfl
@[simp] theorem fa29_2 (i o : Nat) : aFieldAddr Tryz.prog 29 (ptr i o) 2 = some (ptr i (o + 2)) := by kernel_rfl
@[simp] theorem fa29_3 (i o : Nat) : aFieldAddr Tryz.prog 29 (ptr i o) 3 = some (ptr i (o + 3)) := by kernel_rfl
@[simp] theorem fa29_4 (i o : Nat) : aFieldAddr Tryz.prog 29 (ptr i o) 4 = some (ptr i (o + 4)) := by kernel_rfl
@[simp] theorem fa29_5 (i o : Nat) : aFieldAddr Tryz.prog 29 (ptr i o) 5 = some (ptr i (o + 5)) := by kernel_rfl
@[simp] theorem fa29_6 (i o : Nat) : aFieldAddr Tryz.prog 29 (ptr i o) 6 = some (ptr i (o + 6)) := by kernel_rfl
@[simp] theorem fa29_7 (i o : Nat) : aFieldAddr Tryz.prog 29 (ptr i o) 7 = some (ptr i (o + 7)) := by kernel_rfl
@[simp] theorem fa35_0 (i o : Nat) : aFieldAddr Tryz.prog 35 (ptr i o) 0 = some (ptr i o) := by kernel_rfl
@[simp] theorem fa35_1 (i o : Nat) : aFieldAddr Tryz.prog 35 (ptr i o) 1 = some (ptr i (o + 1)) := by kernel_rfl
theorem t25 : okT Tryz.prog 25 29 8 := okT_of (z := .agg #[.int .i64 0, .int .i64 0, .int .i64 0, .int .i64 0, .int .i64 0, .int .i64 0, .int .i64 0, .int .i64 0]) (by kernel_rfl) (by kernel_rfl) (by decide) (ti := Tryz.prog.types[29]!) (by kernel_rfl) (by kernel_rfl) (by kernel_rfl) (by kernel_rfl) (by kernel_rfl)
theorem t42 : okT Tryz.prog 42 3 1 := okT_of (z := .int .i64 0) (by kernel_rfl) (by kernel_rfl) (by decide) (ti := Tryz.prog.types[3]!) (by kernel_rfl) (by kernel_rfl) (by kernel_rfl) (by kernel_rfl) (by kernel_rfl)
theorem z29 : zeroOf Tryz.prog 29 = some (.agg #[.int .i64 0, .int .i64 0, .int .i64 0, .int .i64 0, .int .i64 0, .int .i64 0, .int .i64 0, .int .i64 0]) := by kernel_rfl
theorem z3 : zeroOf Tryz.prog 3 = some (.int .i64 0) := by kernel_rfl

theorem callA_q {P : Program} {tab : Tab} {g : FuncId} {args : List Value} {s : St} {R : Value → St → Prop} (h : ∀ Q : Value → St → Prop, (∀ v s', R v s' → Q v s') → CallA P tab g args s Q) : CallA P tab g args s R := h R fun _ _ x => x

/-- A slice of quotes. -/
def Sq (s : St) (v : Value) (l : List Qo) (i : Nat) : Prop := Sl s v 8 l.length (flat l) i
theorem Sq.len {s : St} {v : Value} {l : List Qo} {i : Nat} (h : Sq s v l i) : aBuiltin Tryz.prog .len [25] [v] = .ret (.int .i64 l.length) := Sl.len h t25
theorem Sq.ia {s : St} {v : Value} {l : List Qo} {i : Nat} (h : Sq s v l i) (j : Nat) (hj : j < l.length) : aIndexAddr Tryz.prog 25 v (.int .i64 (j : Int)) = some (ptr i (j * 8)) := Sl.ia h t25 j hj
theorem Sq.row {s : St} {v : Value} {l : List Qo} {i : Nat} (h : Sq s v l i) {j : Nat} (hj : j < l.length) : i < s.n ∧ ∃ r, s.h.get i = some (.cells (flat l ++ r)) := Sl.row h (by omega)
theorem Sq.move {s s' : St} {v : Value} {l : List Qo} {i : Nat} {W : List Nat} (h : Sq s v l i) (q : Quiet W s s') (hi : i ∉ W) : Sq s' v l i := Sl.move h q hi

end Go.Proofs.Qt
