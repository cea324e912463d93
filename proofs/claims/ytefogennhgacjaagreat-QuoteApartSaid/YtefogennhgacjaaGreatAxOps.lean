/- AX: the operations, over rows. -/
import Derived.Test.YtefogennhgacjaaGreatAxCore
namespace Go.Ax
set_option linter.unusedSimpArgs false
set_option linter.unusedVariables false
open Go

/-- A slice whose capacity is open: its address bears the element's size as its spot. -/
def openSl (i o sz len : Nat) : Value := .slice (some ⟨i, o, some sz⟩) len 0

def bnd (x : Option Value) (dflt lim : Nat) : Option Nat := match x with
  | none => some dflt
  | some (.int _ n) => match decide (0 ≤ n) && decide (n ≤ lim) with
    | true => some n.toNat
    | false => none
  | some _ => none

/-- s[lo:hi:mx] of a slice. -/
def aSlice0 (sz : Nat) (x : Value) (lo hi mx : Option Value) : Option Value := match x with
  | .slice none 0 0 => match bnd mx 0 0 with
    | none => none
    | some m => match bnd hi 0 m with
      | none => none
      | some h => match bnd lo 0 h with
        | none => none
        | some _ => some (.slice none 0 0)
  | .slice (some ⟨i, o, none⟩) len cap => match bnd mx cap cap with
    | none => none
    | some m => match bnd hi len m with
      | none => none
      | some h => match bnd lo 0 h with
        | none => none
        | some l => some (.slice (some ⟨i, (match Nat.beq m l with | true => o | false => o + l * sz), none⟩) (h - l) (m - l))
  | .slice (some ⟨i, o, some z⟩) len 0 => match Nat.beq z sz with
    | false => none
    | true => match mx with
      | none => match bnd hi len len with
        | none => none
        | some h => match bnd lo 0 h with
          | none => none
          | some l => some (openSl i (o + l * sz) sz (h - l))
      | some _ => match bnd mx 0 len with
        | none => none
        | some m => match bnd hi 0 m with
          | none => none
          | some h => match bnd lo 0 h with
            | none => none
            | some l => some (.slice (some ⟨i, (match Nat.beq m l with | true => o | false => o + l * sz), none⟩) (h - l) (m - l))
  | _ => none

def aSlice (sz : Nat) (x : Value) (lo hi mx : Option Value) : Option Value := match mx, hi with
  | some _, none => none
  | _, _ => aSlice0 sz x lo hi mx

/-- The same, past the length of a slice whose capacity is open: what is known of its row bears it. -/
def aSliceFar (sz : Nat) (x : Value) (lo hi : Option Value) : A Value := match x, hi with
  | .slice (some ⟨i, o, some z⟩) len 0, some (.int _ h) => match Nat.beq z sz && Nat.blt 0 sz && decide (0 ≤ h) with
    | false => .fail
    | true => .rd i fun
      | .cells c => match Nat.ble len h.toNat && Nat.ble (o + h.toNat * sz) c.length with
        | false => .fail
        | true => match bnd lo 0 h.toNat with
          | none => .fail
          | some l => .ret (openSl i (o + l * sz) sz (h.toNat - l))
      | _ => .fail
  | _, _ => .fail

/-- The elements' cells of a slice or string: n of them. -/
def aFirst (sz n : Nat) : Value → A (List Value)
  | .slice (some ⟨i, o, _⟩) len _ => match Nat.ble n len with
    | true => match Nat.beq n 0 with
      | true => .ret []
      | false => ldCells i o (n * sz)
    | false => .fail
  | .slice none 0 0 => match Nat.beq n 0 with
    | true => .ret []
    | false => .fail
  | .string s => .ret ((s.extract 0 n).data.toList.map fun b => .int .u8 b.toNat)
  | _ => .fail

def aLen : Value → Option Nat
  | .slice (some _) n _ => some n
  | .slice none 0 0 => some 0
  | .string s => some s.size
  | _ => none

/-- append, of n elements whose cells are 'new'. -/
def aAppend (sz : Nat) (s : Value) (n : Nat) (new : List Value) : A Value := match s with
  | .slice none 0 0 => match Nat.beq n 0 with
    | true => .ret s
    | false => match plains new with
      | false => .fail
      | true => .nw (.cells new) fun j => .ret (openSl j 0 sz n)
  | .slice (some ⟨i, o, none⟩) len cap => match Nat.ble (len + n) cap with
    | true => match Nat.beq n 0 with
      | true => .ret s
      | false => (stCells i (o + len * sz) new).bind fun _ => .ret (.slice (some ⟨i, o, none⟩) (len + n) cap)
    | false => match plains new with
      | false => .fail
      | true => match Nat.beq len 0 with
        | true => .nw (.cells new) fun j => .ret (openSl j 0 sz (len + n))
        | false => (ldCells i o (len * sz)).bind fun old => .nw (.cells (old ++ new)) fun j => .ret (openSl j 0 sz (len + n))
  | .slice (some ⟨i, o, some z⟩) len 0 => match Nat.beq z sz, Nat.beq n 0 with
    | false, _ => .fail
    | true, true => .ret s
    | true, false => .rd i fun
      | .cells c => match Nat.ble (o + (len + n) * sz) c.length with
        | true => (stCells i (o + len * sz) new).bind fun _ => .ret (openSl i o sz (len + n))
        | false => match plains new, slab c o (len * sz) with
          | true, some old => .kl i (.nw (.cells (old ++ new)) fun j => .ret (openSl j 0 sz (len + n)))
          | _, _ => .fail
      | _ => .fail
  | _ => .fail

/-- A value written as the variable of a type. -/
def pack (P : Program) (t : TypeId) (cs : List Value) : Option Value := match pv P (isAgg t) with
  | some true => some (.agg ⟨cs⟩)
  | some false => match cs with
    | [v] => some v
    | _ => none
  | none => none

def partOf (P : Program) (t : TypeId) (cs : List Value) (off : Nat) : Option Value := match pv P (isAgg t) with
  | some true => match pv P (sizeOf t) with
    | some n => match slab cs off n with
      | some l => some (.agg ⟨l⟩)
      | none => none
    | none => none
  | some false => match slab cs off 1 with
    | some [v] => some v
    | _ => none
  | none => none

def aLoad (P : Program) (t : TypeId) : Value → A Value
  | .pointer (some ⟨i, o, none⟩) => match pv P (isAgg t) with
    | some true => match pv P (sizeOf t) with
      | some n => (ldCells i o n).bind fun l => .ret (.agg ⟨l⟩)
      | none => .fail
    | some false => (ldCells i o 1).bind fun
      | [v] => .ret v
      | _ => .fail
    | none => .fail
  | _ => .fail

def aStore (P : Program) (t : TypeId) (a v : Value) : A Unit := match a with
  | .pointer (some ⟨i, o, none⟩) => match pv P (sizeOf t) with
    | some n => match Nat.beq (cellsOf v).length n with
      | true => stCells i o (cellsOf v)
      | false => .fail
    | none => .fail
  | _ => .fail

def elemOfSlice (P : Program) (t : TypeId) : Option TypeId := match pv P (underlying t) with
  | some (.slice e) => some e
  | _ => none

/-- A zero value, of cells without addresses. -/
def zeroOf (P : Program) (t : TypeId) : Option Value := match pv P (zeroValue t) with
  | some z => match closed z && plains (cellsOf z) with
    | true => some z
    | false => none
  | none => none

def rep (l : List Value) : Nat → List Value
  | 0 => []
  | n + 1 => l ++ rep l n

/-- The parts of a struct or an array laid over the zero cells. -/
def fillA (place : Nat → Option (Nat × Nat)) (cs : List Value) : List (Nat × Value) → Option (List Value)
  | [] => some cs
  | (i, v) :: rest => match place i with
    | none => none
    | some (off, size) => match Nat.beq (cellsOf v).length size && plains (cellsOf v) with
      | false => none
      | true => match lay (cellsOf v) off cs with
        | some cs' => fillA place cs' rest
        | none => none

def placesOf (P : Program) : List Field → Option (List (Nat × Nat))
  | [] => some []
  | f :: l => match pv P (sizeOf f.type) with
    | none => none
    | some n => match placesOf P l with
      | none => none
      | some r => some ((f.offset, n) :: r)

def aBuild (P : Program) (t : TypeId) (parts : List (Nat × Value)) : Option Value := match zeroOf P t with
  | none => none
  | some z => match pv P (underlying t) with
    | some (.struct fields) => match placesOf P fields.toList with
      | none => none
      | some pl => match fillA (fun i => pl[i]?) (cellsOf z) parts with
        | some cs => some (.agg ⟨cs⟩)
        | none => none
    | some (.array _ e) => match pv P (sizeOf e) with
      | some n => match fillA (fun i => some (i * n, n)) (cellsOf z) parts with
        | some cs => some (.agg ⟨cs⟩)
        | none => none
      | none => none
    | _ => none

def aBuildSlice (P : Program) (t : TypeId) (len : Nat) (parts : List (Nat × Value)) : A Value := match elemOfSlice P t with
  | none => .fail
  | some e => match pv P (sizeOf e), zeroOf P e with
    | some n, some z => match Nat.ble (len * n) 16777216 with
      | true => match fillA (fun i => some (i * n, n)) (rep (cellsOf z) len) parts with
        | some cs => match Nat.beq (cellsOf z).length n with
          | true => .nw (.cells cs) fun j => .ret (.slice (some ⟨j, 0, none⟩) len len)
          | false => .fail
        | none => .fail
      | false => .fail
    | _, _ => .fail

def aMakeSlice (P : Program) (t : TypeId) (l c : Value) : A Value := match elemOfSlice P t, l, c with
  | some e, .int .i64 l, .int .i64 c => match pv P (sizeOf e), zeroOf P e with
    | some n, some z => match decide (0 ≤ l) && decide (l ≤ c) && decide (c ≤ 65536) && Nat.beq (cellsOf z).length n, pv P (typeInfo e) with
      | true, some ti => match Nat.ble (ti.bytes * c.toNat) 1073741824 with
        | true => .nw (.cells (rep (cellsOf z) c.toNat)) fun j => .ret (.slice (some ⟨j, 0, none⟩) l.toNat c.toNat)
        | false => .fail
      | _, _ => .fail
    | _, _ => .fail
  | _, _, _ => .fail

def aIndexAddr (P : Program) (t : TypeId) (x : Value) (ix : Value) : Option Value := match ix with
  | .int _ n => match pv P (underlying t), x with
    | some (.slice e), .slice (some ⟨i, o, _⟩) len _ => match decide (0 ≤ n) && decide (n < len), pv P (sizeOf e) with
      | true, some sz => some (.pointer (some ⟨i, o + n.toNat * sz, none⟩))
      | _, _ => none
    | some (.array len e), .pointer (some ⟨i, o, none⟩) => match decide (0 ≤ n) && decide (n < len), pv P (sizeOf e) with
      | true, some sz => some (.pointer (some ⟨i, o + n.toNat * sz, none⟩))
      | _, _ => none
    | _, _ => none
  | _ => none

def aFieldAddr (P : Program) (t : TypeId) (x : Value) (f : Nat) : Option Value := match pv P (underlying t), x with
  | some (.struct fields), .pointer (some ⟨i, o, none⟩) => match fields.toList[f]? with
    | some fd => match pv P (sizeOf fd.type) with
      | some (_ + 1) => some (.pointer (some ⟨i, o + fd.offset, none⟩))
      | _ => none
    | none => none
  | _, _ => none

def aField (P : Program) (t : TypeId) (x : Value) (f : Nat) : Option Value := match pv P (underlying t), x with
  | some (.struct fields), .agg ⟨cs⟩ => match fields.toList[f]? with
    | some fd => partOf P fd.type cs fd.offset
    | none => none
  | _, _ => none

def aIndex (P : Program) (t : TypeId) (x ix : Value) : Option Value := match ix with
  | .int _ n => match pv P (underlying t), x with
    | some (.array len e), .agg ⟨cs⟩ => match decide (0 ≤ n) && decide (n < len), pv P (sizeOf e) with
      | true, some sz => partOf P e cs (n.toNat * sz)
      | _, _ => none
    | some .string, .string s => match decide (0 ≤ n), s.data.toList[n.toNat]? with
      | true, some b => some (.int .u8 b.toNat)
      | _, _ => none
    | _, _ => none
  | _ => none

def aNth : List Value → Nat → Option Value
  | [], _ => none
  | v :: _, 0 => some v
  | _ :: l, n + 1 => aNth l n

def aExtract (t : Value) (i : Nat) : Option Value := match t with
  | .tuple ⟨l⟩ => aNth l i
  | _ => none

def aNilCheck : Value → Option Value
  | .pointer (some a) => some (.pointer (some a))
  | .func (.func f) a b => some (.func (.func f) a b)
  | .iface t v => some (.iface t v)
  | _ => none

/-- == between values of which one is nil. -/
def eqNil (d : TypeDesc) (x y : Value) : Option Bool := match d, x, y with
  | .pointer _, .pointer none, .pointer b => some b.isNone
  | .pointer _, .pointer (some _), .pointer none => some false
  | .slice _, .slice none 0 0, .slice b _ _ => some b.isNone
  | .slice _, .slice (some _) _ _, .slice none 0 0 => some false
  | .map _ _, .map none, .map b => some b.isNone
  | .map _ _, .map (some _), .map none => some false
  | .interface _, .nilIface, .iface _ _ => some false
  | .interface _, .iface _ _, .nilIface => some false
  | .func _ _ _, .nilFunc, .func _ _ _ => some false
  | .func _ _ _, .func _ _ _, .nilFunc => some false
  | _, _, _ => none

def ofPv (o : Option Value) : Option Value := match o with
  | some v => match closed v with
    | true => some v
    | false => none
  | none => none

def kindNo : IntKind → Nat
  | .i8 => 0
  | .i16 => 1
  | .i32 => 2
  | .i64 => 3
  | .u8 => 4
  | .u16 => 5
  | .u32 => 6
  | .u64 => 7

/-- Comparisons that reckon where a number is known but for its size. -/
def iLt : Int → Int → Bool
  | .ofNat a, .ofNat b => Nat.ble (Nat.succ a) b
  | .ofNat _, .negSucc _ => false
  | .negSucc _, .ofNat _ => true
  | .negSucc a, .negSucc b => Nat.ble (Nat.succ b) a

theorem iLt_eq (a b : Int) : iLt a b = decide (a < b) := by
  rw [Bool.eq_iff_iff]
  unfold iLt
  split <;> simp [Nat.ble_eq] <;> omega

def iLe (a b : Int) : Bool := match iLt b a with
  | true => false
  | false => true

theorem iLe_eq (a b : Int) : iLe a b = decide (a ≤ b) := by
  rw [Bool.eq_iff_iff]
  unfold iLe
  rw [iLt_eq]
  split <;> rename_i h <;> simp at h <;> simp <;> omega

/-- Whole numbers: the common operations. -/
def intOp (op : BinOp) (k : IntKind) (a b : Int) : Option Value := match op with
  | .add => some (.int k (k.wrap (a + b)))
  | .sub => some (.int k (k.wrap (a - b)))
  | .mul => some (.int k (k.wrap (a * b)))
  | .eql => some (.bool (a == b))
  | .neq => some (.bool (!(a == b)))
  | .lss => some (.bool (iLt a b))
  | .leq => some (.bool (iLe a b))
  | .gtr => some (.bool (iLt b a))
  | .geq => some (.bool (iLe b a))
  | _ => none

def aBinSlow (P : Program) (op : BinOp) (t : TypeId) (x y : Operand) (a b : Value) : Option Value :=
  match closed a && closed b with
  | true => ofPv (pv P (do eqGuard op t x y a b; binOp op t a b))
  | false => match pv P (underlying t) with
    | none => none
    | some d => match op with
      | .eql => match eqNil d a b with
        | some r => some (.bool r)
        | none => none
      | .neq => match eqNil d a b with
        | some r => some (.bool (!r))
        | none => none
      | _ => none

def aBinInt (P : Program) (op : BinOp) (t : TypeId) (x y : Operand) (k : IntKind) (a : Int) (k' : IntKind) (b : Int) : Option Value :=
  match Nat.beq (kindNo k) (kindNo k') with
  | true => match intOp op k a b with
    | some v => some v
    | none => aBinSlow P op t x y (.int k a) (.int k' b)
  | false => aBinSlow P op t x y (.int k a) (.int k' b)

def aBin (P : Program) (op : BinOp) (t : TypeId) (x y : Operand) (a b : Value) : Option Value := match a with
  | .int k n => match b with
    | .int k' m => aBinInt P op t x y k n k' m
    | _ => aBinSlow P op t x y a b
  | _ => aBinSlow P op t x y a b

def aTypeAssert (P : Program) (x : Value) (asserted : TypeId) (ok : Bool) : Option Value := match pv P (underlying asserted), x with
  | some (.interface _), _ => none
  | some _, .iface t v => match Nat.beq t asserted with
    | true => some (match ok with | true => .tuple ⟨[v, .bool true]⟩ | false => v)
    | false => match ok, zeroOf P asserted with
      | true, some z => some (.tuple ⟨[z, .bool false]⟩)
      | _, _ => none
  | some _, .nilIface => match ok, zeroOf P asserted with
      | true, some z => some (.tuple ⟨[z, .bool false]⟩)
      | _, _ => none
  | _, _ => none

/-- m[k] -/
def aLookup (P : Program) (t : TypeId) (m k : Value) (ok : Bool) : A Value := match pv P (underlying t), closed k with
  | some (.map key elem), true => match m with
    | .map none => match pv P (Instr.checkKey true 10000 key k), pv P (Instr.findKey key k []), zeroOf P elem with
      | some _, some none, some z => .ret (match ok with | true => .tuple ⟨[z, .bool false]⟩ | false => z)
      | _, _, _ => .fail
    | .map (some r) => .rd r fun
      | .map es _ => match pv P (Instr.checkKey es.isEmpty 10000 key k), pv P (Instr.findKey key k es) with
        | some _, some (some (_, v)) => .ret (match ok with | true => .tuple ⟨[v, .bool true]⟩ | false => v)
        | some _, some none => match zeroOf P elem with
          | some z => .ret (match ok with | true => .tuple ⟨[z, .bool false]⟩ | false => z)
          | none => .fail
        | _, _ => .fail
      | _ => .fail
    | _ => .fail
  | _, _ => .fail

def setAt : List MapEntry → Nat → Value → Value → List MapEntry
  | [], _, _, _ => []
  | e :: l, 0, k, v => { e with key := k, val := v } :: l
  | e :: l, n + 1, k, v => e :: setAt l n k v

def entAt : List MapEntry → Nat → Option MapEntry
  | [], _ => none
  | e :: _, 0 => some e
  | _ :: l, n + 1 => entAt l n

/-- m[k] = v -/
def aUpdate (P : Program) (t : TypeId) (m k v : Value) : A Value := match pv P (underlying t), closed k, m with
  | some (.map key _), true, .map (some r) => .rd r fun
    | .map es clock => match pv P (Instr.checkKey false 10000 key k), pv P (Instr.findKey key k es) with
      | some _, some (some (i, _)) => match entAt es i with
        | some e => match pv P (Instr.keyThatStays e.key k) with
          | some k' => match closed k' with
            | true => .wr r (.map (setAt es i k' v) clock) (.ret undef)
            | false => .fail
          | none => .fail
        | none => .fail
      | some _, some none => .wr r (.map (es ++ [{ key := k, val := v, born := clock }]) (clock + 1)) (.ret undef)
      | _, _ => .fail
    | _ => .fail
  | _, _, _ => .fail

/-- The entry that an iterator over a map comes to next, where there is but one way: none: it is over. -/
def nextEnt (since : Nat) (seen : List Nat) (stepped : Nat) (es : List MapEntry) : Option (Option MapEntry) :=
  match !seen.isEmpty && !es.isEmpty && es.all (fun e => Nat.ble stepped e.born) with
  | true => none
  | false => match (es.filter fun e => !hasB seen e.born).filter (fun e => Nat.blt e.born since), (es.filter fun e => !hasB seen e.born).filter (fun e => !Nat.blt e.born since) with
    | [], [] => some none
    | [e], [] => some (some e)
    | _, _ => none
where hasB : List Nat → Nat → Bool
  | [], _ => false
  | x :: l, n => Nat.beq x n || hasB l n

def aNextMap (i : Nat) : A Value := .rd i fun
  | .mapIter none _ _ _ => .ret (.tuple ⟨[.bool false]⟩)
  | .mapIter (some m) since seen stepped => .rd m fun
    | .map es clock => match nextEnt since seen stepped es with
      | none => .fail
      | some none => .ret (.tuple ⟨[.bool false]⟩)
      | some (some e) => .wr i (.mapIter (some m) since (seen ++ [e.born]) clock) (.ret (.tuple ⟨[.bool true, e.key, e.val]⟩))
    | _ => .fail
  | _ => .fail

def aRange (P : Program) (t : TypeId) (x : Value) : A Value := match x, pv P (underlying t) with
  | .string s, some .string => .nw (.strIter s 0) fun j => .ret (.pointer (some ⟨j, 0, none⟩))
  | .map none, some (.map _ _) => .nw (.mapIter none 0 [] 0) fun j => .ret (.pointer (some ⟨j, 0, none⟩))
  | .map (some m), some (.map _ _) => .rd m fun
    | .map _ clock => .nw (.mapIter (some m) clock [] clock) fun j => .ret (.pointer (some ⟨j, 0, none⟩))
    | _ => .fail
  | _, _ => .fail

def aNextStr (i : Nat) : A Value := .rd i fun
  | .strIter s pos => match Nat.blt pos s.size with
    | true => match Utf8.decode s pos with
      | (c, w) => .wr i (.strIter s (pos + w)) (.ret (.tuple ⟨[.bool true, .int .i64 pos, .int .i32 c]⟩))
    | false => .ret (.tuple ⟨[.bool false]⟩)
  | _ => .fail

def lastN : List Nat → Option Nat
  | [] => none
  | [x] => some x
  | _ :: l => lastN l

def entBorn : List MapEntry → Nat → Option MapEntry
  | [], _ => none
  | e :: l, n => match Nat.beq e.born n with
    | true => some e
    | false => entBorn l n

def aEntry (i : Nat) : A Value := .rd i fun
  | .mapIter (some m) _ seen stepped => match lastN seen with
    | none => .fail
    | some st => .rd m fun
      | .map es clock => match Nat.beq clock stepped, entBorn es st with
        | true, some e => .ret (.tuple ⟨[e.key, e.val]⟩)
        | _, _ => .fail
      | _ => .fail
  | _ => .fail

end Go.Ax
