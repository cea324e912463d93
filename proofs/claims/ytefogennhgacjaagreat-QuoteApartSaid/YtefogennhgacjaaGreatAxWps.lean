/- AX: rules for the simplifier: what a run comes to, operation by operation. What comes behind is hidden from it (an instance argument). -/
import Derived.Test.YtefogennhgacjaaGreatAxWp
import Derived.KernelRfl
namespace Go.Ax
set_option linter.unusedSimpArgs false
set_option linter.unusedVariables false
open Go

class K0 where
  p : Prop
class K1 (α : Type) where
  k : α → Prop
class K2 where
  k : Value → St → Prop
class KC where
  c : Code
class KX where
  q : X → AF → St → Prop

def BindO {α : Type} (o : Option α) [c : K1 α] : Prop := ∃ a, o = some a ∧ c.k a
theorem bindO_some {α : Type} (a : α) (k : α → Prop) : @BindO α (some a) ⟨k⟩ ↔ k a := by
  constructor
  · rintro ⟨b, h, q⟩; cases h; exact q
  · intro q; exact ⟨a, rfl, q⟩
theorem bindO_of {α : Type} {o : Option α} {a : α} {k : α → Prop} (h : o = some a) (q : k a) : @BindO α o ⟨k⟩ := ⟨a, h, q⟩

def IfB (b : Bool) [a : K0] [c : K0] : Prop := match b with
  | true => a.p
  | false => c.p
theorem ifB_true (a c : Prop) : @IfB true ⟨a⟩ ⟨c⟩ ↔ a := Iff.rfl
theorem ifB_false (a c : Prop) : @IfB false ⟨a⟩ ⟨c⟩ ↔ c := Iff.rfl

def St.nw (s : St) (r : Row) : St := ⟨s.h.set s.n (some r), s.n + 1, s.rl, s.n :: s.wl⟩
def St.rdl (s : St) (i : Nat) : St := ⟨s.h, s.n, i :: s.rl, s.wl⟩
def St.wrl (s : St) (i : Nat) (r : Row) : St := ⟨s.h.set i (some r), s.n, i :: s.rl, i :: s.wl⟩
def St.kll (s : St) (i : Nat) : St := ⟨s.h.set i none, s.n, i :: s.rl, i :: s.wl⟩

def RunA (a : A Value) (s : St) [q : K2] : Prop := ∃ v s1, a.run s = some (v, s1) ∧ q.k v s1

theorem runA_ret (v : Value) (s : St) (Q : Value → St → Prop) : @RunA (.ret v) s ⟨Q⟩ ↔ Q v s := by
  constructor
  · rintro ⟨_, _, h, q⟩; cases h; exact q
  · intro q; exact ⟨_, _, rfl, q⟩
theorem runA_nw (r : Row) (k : Nat → A Value) (s : St) (Q : Value → St → Prop) : @RunA (.nw r k) s ⟨Q⟩ ↔ @RunA (k s.n) (s.nw r) ⟨Q⟩ := Iff.rfl
theorem runA_rd (i : Nat) (k : Row → A Value) (s : St) (Q : Value → St → Prop) : @RunA (.rd i k) s ⟨Q⟩ ↔ @BindO Row (s.h.get i) ⟨fun r => @RunA (k r) (s.rdl i) ⟨Q⟩⟩ := by
  unfold RunA BindO
  simp only [A.run]
  cases s.h.get i with
  | none => simp
  | some r => simp [St.rdl]
theorem runA_wr (i : Nat) (r : Row) (k : A Value) (s : St) (Q : Value → St → Prop) : @RunA (.wr i r k) s ⟨Q⟩ ↔ @BindO Row (s.h.get i) ⟨fun _ => @RunA k (s.wrl i r) ⟨Q⟩⟩ := by
  unfold RunA BindO
  simp only [A.run]
  cases s.h.get i with
  | none => simp
  | some r => simp [St.wrl]
theorem runA_kl (i : Nat) (k : A Value) (s : St) (Q : Value → St → Prop) : @RunA (.kl i k) s ⟨Q⟩ ↔ @BindO Row (s.h.get i) ⟨fun _ => @RunA k (s.kll i) ⟨Q⟩⟩ := by
  unfold RunA BindO
  simp only [A.run]
  cases s.h.get i with
  | none => simp
  | some r => simp [St.kll]
theorem runA_ofOpt (o : Option Value) (s : St) (Q : Value → St → Prop) : @RunA (A.ofOpt o) s ⟨Q⟩ ↔ @BindO Value o ⟨fun v => Q v s⟩ := by
  unfold RunA BindO
  cases o with
  | none => simp [A.ofOpt, A.run]
  | some v =>
    constructor
    · rintro ⟨_, _, h, q⟩; cases h; exact ⟨v, rfl, q⟩
    · rintro ⟨_, h, q⟩; cases h; exact ⟨v, s, rfl, q⟩

/-- Cells, read. -/
def rowCells : Row → Option (List Value)
  | .cells c => some c
  | .ro c => some c
  | _ => none
theorem rowCells_cells (c : List Value) : rowCells (.cells c) = some c := rfl
theorem rowCells_ro (c : List Value) : rowCells (.ro c) = some c := rfl

def LdB (r : Option Row) (o n : Nat) [k : K1 (List Value)] : Prop := ∃ row c l, r = some row ∧ rowCells row = some c ∧ slab c o n = some l ∧ k.k l
theorem ldB_cells (c : List Value) (o n : Nat) (k : List Value → Prop) : @LdB (some (.cells c)) o n ⟨k⟩ ↔ @BindO _ (slab c o n) ⟨k⟩ := by
  constructor
  · rintro ⟨_, _, l, h1, h2, h3, h4⟩; cases h1; cases h2; exact ⟨l, h3, h4⟩
  · rintro ⟨l, h3, h4⟩; exact ⟨_, _, l, rfl, rfl, h3, h4⟩
theorem ldB_ro (c : List Value) (o n : Nat) (k : List Value → Prop) : @LdB (some (.ro c)) o n ⟨k⟩ ↔ @BindO _ (slab c o n) ⟨k⟩ := by
  constructor
  · rintro ⟨_, _, l, h1, h2, h3, h4⟩; cases h1; cases h2; exact ⟨l, h3, h4⟩
  · rintro ⟨l, h3, h4⟩; exact ⟨_, _, l, rfl, rfl, h3, h4⟩
theorem ldB_of {r : Option Row} {row : Row} {c l : List Value} {o n : Nat} {k : List Value → Prop} (h1 : r = some row) (h2 : rowCells row = some c) (h3 : slab c o n = some l) (h4 : k l) : @LdB r o n ⟨k⟩ := ⟨row, c, l, h1, h2, h3, h4⟩

theorem runA_ld (i o n : Nat) (f : List Value → A Value) (s : St) (Q : Value → St → Prop) : @RunA ((ldCells i o n).bind f) s ⟨Q⟩ ↔ @LdB (s.h.get i) o n ⟨fun l => @RunA (f l) (s.rdl i) ⟨Q⟩⟩ := by
  unfold RunA LdB ldCells
  simp only [A.bind, A.run]
  cases s.h.get i with
  | none => simp
  | some r =>
    cases r <;> simp [A.bind, A.run, rowCells, A.ofOpt]
    all_goals (rename_i c; cases slab c o n <;> simp [A.bind, A.run, St.rdl])

def StB (r : Option Row) (o : Nat) (vs : List Value) [k : K1 (List Value)] : Prop := ∃ c c2, r = some (.cells c) ∧ plains vs = true ∧ lay vs o c = some c2 ∧ k.k c2
theorem stB_of {r : Option Row} {o : Nat} {vs c c2 : List Value} {k : List Value → Prop} (h1 : r = some (.cells c)) (h2 : plains vs = true) (h3 : lay vs o c = some c2) (h4 : k c2) : @StB r o vs ⟨k⟩ := ⟨c, c2, h1, h2, h3, h4⟩
theorem stB_cells (c : List Value) (o : Nat) (vs : List Value) (k : List Value → Prop) : @StB (some (.cells c)) o vs ⟨k⟩ ↔ plains vs = true ∧ @BindO _ (lay vs o c) ⟨k⟩ := by
  constructor
  · rintro ⟨_, c2, h1, h2, h3, h4⟩; cases h1; exact ⟨h2, c2, h3, h4⟩
  · rintro ⟨h2, c2, h3, h4⟩; exact ⟨c, c2, rfl, h2, h3, h4⟩
theorem runA_st (i o : Nat) (vs : List Value) (f : Unit → A Value) (s : St) (Q : Value → St → Prop) : @RunA ((stCells i o vs).bind f) s ⟨Q⟩ ↔ @StB (s.h.get i) o vs ⟨fun c2 => @RunA (f ()) ((s.rdl i).wrl i (.cells c2)) ⟨Q⟩⟩ := by
  unfold RunA StB stCells
  cases plains vs with
  | false => simp [A.bind, A.run]
  | true =>
    simp only [A.bind, A.run]
    cases h : s.h.get i with
    | none => simp
    | some r =>
      cases r <;> simp [A.bind, A.run]
      rename_i c
      cases lay vs o c <;> simp [A.bind, A.run, St.rdl, St.wrl, h]

section
variable {P : Program} {tab : Tab}

/-- An operation that is asked for. -/
def OpB (P : Program) (tab : Tab) (f : AF) (op : Op) (s : St) [q : K2] : Prop := ∃ n v s1, runOper P tab (exec P tab n) ⟨none, op, 0, "", #[], none⟩ f s = some (v, s1) ∧ q.k v s1

def PutB (f : AF) (d : Option Tmp) (v : Value) [k : K1 AF] : Prop := ∃ f1, f.put d v = some f1 ∧ k.k f1

def AF.up (f : AF) (d : Nat) (v : Value) : AF := ⟨f.t.set d (some v), f.n⟩
theorem AF.up_n (f : AF) (d : Nat) (v : Value) : (f.up d v).n = f.n := rfl
theorem AF.get_up (f : AF) (d : Nat) (v : Value) (i : Nat) : (f.up d v).get i = if i = d then v else f.get i := by
  unfold AF.up AF.get
  dsimp only
  rw [T.get_set]
  by_cases e : i = d
  · rw [if_pos e, if_pos e]
  · rw [if_neg e, if_neg e]
theorem AF.get_nil (n i : Nat) : (AF.mk .nil n).get i = undef := rfl

theorem putB_none (f : AF) (v : Value) (k : AF → Prop) : @PutB f none v ⟨k⟩ ↔ k f := by
  constructor
  · rintro ⟨_, h, q⟩; cases h; exact q
  · intro q; exact ⟨_, rfl, q⟩
theorem putB_some (f : AF) (d : Nat) (v : Value) (k : AF → Prop) : @PutB f (some d) v ⟨k⟩ ↔ @IfB (decide (d < f.n)) ⟨k (f.up d v)⟩ ⟨False⟩ := by
  rw [show decide (d < f.n) = Nat.blt d f.n from by rw [Bool.eq_iff_iff]; simp [Nat.blt_eq]]
  unfold PutB IfB AF.put AF.up
  dsimp only
  cases Nat.blt d f.n <;> simp

/-- Where the operation of a guard puts its result. -/
def gdst : List Oper → Nat → Option Tmp
  | [], _ => none
  | o :: _, 0 => o.dst
  | _ :: l, n + 1 => gdst l n
theorem gdst_zero (d : Option Tmp) (op : Op) (t : TypeId) (pos : String) (after : Array Edge) (g : Option (Nat × Bool)) (l : List Oper) : gdst (⟨d, op, t, pos, after, g⟩ :: l) 0 = d := rfl
theorem gdst_succ (o : Oper) (l : List Oper) (n : Nat) : gdst (o :: l) (n + 1) = gdst l n := rfl

def gval (d : Option Tmp) (f : AF) (w : Bool) : Bool := match d with
  | none => false
  | some d => match f.get d with
    | .bool b => b == w
    | _ => false
def gv (v : Value) (w : Bool) : Bool := match v with
  | .bool b => b == w
  | _ => false
theorem gval_some (d : Nat) (f : AF) (w : Bool) : gval (some d) f w = gv (f.get d) w := rfl
theorem gv_bool (b w : Bool) : gv (.bool b) w = (b == w) := rfl
theorem gv_undef (w : Bool) : gv undef w = false := rfl

theorem nthOp_gdst : ∀ (l : List Oper) (j : Nat) (f : AF) (w : Bool), (match nthOp l j with | none => false | some p => match p.dst with | none => false | some d => match f.get d with | .bool b => b == w | _ => false) = gval (gdst l j) f w
  | [], j, f, w => by cases j <;> rfl
  | o :: l, 0, f, w => by simp only [nthOp, gdst, gval]
  | o :: l, n + 1, f, w => by simpa only [nthOp, gdst] using nthOp_gdst l n f w

theorem ops_nil_iff (ops : List Oper) (f : AF) (s : St) (Q : AF → St → Prop) : OpsA P tab ops [] f s Q ↔ Q f s := by
  constructor
  · rintro ⟨n, f1, s1, h, q⟩; cases h; exact q
  · exact ops_nil

theorem ops_cons_iff (ops : List Oper) (o : Oper) (l : List Oper) (f : AF) (s : St) (Q : AF → St → Prop) : OpsA P tab ops (o :: l) f s Q ↔ OneA P tab ops o f s fun v s1 => @PutB f o.dst v ⟨fun f1 => OpsA P tab ops l f1 s1 Q⟩ := by
  constructor
  · rintro ⟨n, f1, s1, h, q⟩
    unfold execOps at h
    cases hr : runOne P tab (exec P tab n) ops o f s with
    | none => rw [hr] at h; cases h
    | some r =>
      rw [hr] at h
      obtain ⟨v, s2⟩ := r
      dsimp only at h
      cases hp : f.put o.dst v with
      | none => rw [hp] at h; cases h
      | some f2 =>
        rw [hp] at h
        exact ⟨n, v, s2, hr, f2, hp, n, f1, s1, h, q⟩
  · exact ops_cons

theorem one_none_iff (ops : List Oper) (d : Option Tmp) (op : Op) (t : TypeId) (pos : String) (after : Array Edge) (f : AF) (s : St) (Q : Value → St → Prop) :
    OneA P tab ops ⟨d, op, t, pos, after, none⟩ f s Q ↔ @OpB P tab f op s ⟨Q⟩ := Iff.rfl

theorem one_some_iff (ops : List Oper) (d : Option Tmp) (op : Op) (t : TypeId) (pos : String) (after : Array Edge) (j : Nat) (w : Bool) (f : AF) (s : St) (Q : Value → St → Prop) :
    OneA P tab ops ⟨d, op, t, pos, after, some (j, w)⟩ f s Q ↔ @IfB (gval (gdst ops j) f w) ⟨@OpB P tab f op s ⟨Q⟩⟩ ⟨Q undef s⟩ := by
  have hw : wantedA ops ⟨d, op, t, pos, after, some (j, w)⟩ f = gval (gdst ops j) f w := nthOp_gdst ops j f w
  unfold OneA OpB IfB runOne
  rw [hw]
  cases gval (gdst ops j) f w
  · constructor
    · rintro ⟨n, v, s1, h, q⟩; cases h; exact q
    · intro q; exact ⟨0, _, _, rfl, q⟩
  · rfl

theorem dst_eq (d : Option Tmp) (op : Op) (t : TypeId) (pos : String) (after : Array Edge) (g : Option (Nat × Bool)) : (Oper.mk d op t pos after g).dst = d := rfl

def isCall : Op → Bool
  | .call ⟨.builtin _, _, _⟩ => false
  | .call _ => true
  | _ => false

theorem opB_run (f : AF) (op : Op) (s : St) (Q : Value → St → Prop) (h : isCall op = false) : @OpB P tab f op s ⟨Q⟩ ↔ @RunA (aOp P f op) s ⟨Q⟩ := by
  unfold OpB RunA runOper
  cases op <;> try (dsimp only; exact ⟨fun ⟨_, v, s1, h⟩ => ⟨v, s1, h⟩, fun ⟨v, s1, h⟩ => ⟨0, v, s1, h⟩⟩)
  rename_i c
  obtain ⟨callee, xs, tys⟩ := c
  cases callee <;> first | (dsimp only; exact ⟨fun ⟨_, v, s1, h⟩ => ⟨v, s1, h⟩, fun ⟨v, s1, h⟩ => ⟨0, v, s1, h⟩⟩) | cases h

/-- A call. -/
def CallB (P : Program) (tab : Tab) (g : FuncId) (args : List Value) (s : St) [q : K2] : Prop := CallA P tab g args s q.k

theorem callB {g : FuncId} {args : List Value} {s : St} {Q R : Value → St → Prop} (h : CallA P tab g args s R) (k : ∀ v s1, R v s1 → Q v s1) : @CallB P tab g args s ⟨Q⟩ := h.mono k

def TarB (P : Program) (tab : Tab) (t : Option (FuncId × List Value)) (s : St) [q : K2] : Prop := ∃ g args, t = some (g, args) ∧ CallA P tab g args s q.k
theorem tarB_some (g : FuncId) (args : List Value) (s : St) (Q : Value → St → Prop) : @TarB P tab (some (g, args)) s ⟨Q⟩ ↔ @CallB P tab g args s ⟨Q⟩ := by
  constructor
  · rintro ⟨_, _, h, q⟩; cases h; exact q
  · intro q; exact ⟨_, _, rfl, q⟩

theorem opB_call (f : AF) (c : Call) (s : St) (Q : Value → St → Prop) (h : isCall (.call c) = true) : @OpB P tab f (.call c) s ⟨Q⟩ ↔ @TarB P tab (aTarget P f c) s ⟨Q⟩ := by
  unfold OpB TarB runOper CallA
  obtain ⟨callee, xs, tys⟩ := c
  cases callee with
  | builtin b => cases h
  | value x =>
    dsimp only
    cases aTarget P f ⟨.value x, xs, tys⟩ with
    | none => simp
    | some r => exact ⟨fun h => ⟨r.1, r.2, rfl, h⟩, fun ⟨_, _, e, h⟩ => by cases e; exact h⟩
  | invoke r m =>
    dsimp only
    cases aTarget P f ⟨.invoke r m, xs, tys⟩ with
    | none => simp
    | some r => exact ⟨fun h => ⟨r.1, r.2, rfl, h⟩, fun ⟨_, _, e, h⟩ => by cases e; exact h⟩

/-! ### code -/

theorem exec_some_succ {n : Nat} {c : Code} {f : AF} {s : St} {r : X × AF × St} (h : exec P tab n c f s = some r) : ∃ k, n = k + 1 ∧ stepCode P tab (exec P tab k) c f s = some r := by
  cases n with
  | zero => cases h
  | succ k => exact ⟨k, rfl, h⟩

theorem runs_seq_iff (a b : Code) (f : AF) (s : St) (Q : X → AF → St → Prop) : Runs P tab (.seq a b) f s Q ↔ Runs P tab a f s (Then P tab b Q) := by
  constructor
  · rintro ⟨n, x, f1, s1, h0, q⟩
    obtain ⟨k, -, h⟩ := exec_some_succ h0
    simp only [stepCode] at h
    cases ha : exec P tab k a f s with
    | none => rw [ha] at h; cases h
    | some r =>
      obtain ⟨y, f2, s2⟩ := r
      rw [ha] at h
      cases y with
      | normal => exact ⟨k, _, _, _, ha, k, _, _, _, h, q⟩
      | exit i => cases h; exact ⟨k, _, _, _, ha, q⟩
      | ret => cases h; exact ⟨k, _, _, _, ha, q⟩
  · exact runs_seq

theorem then_normal (b : Code) (Q : X → AF → St → Prop) (f : AF) (s : St) : Then P tab b Q .normal f s ↔ Runs P tab b f s Q := Iff.rfl
theorem then_exit (b : Code) (Q : X → AF → St → Prop) (i : Nat) (f : AF) (s : St) : Then P tab b Q (.exit i) f s ↔ Q (.exit i) f s := Iff.rfl
theorem then_ret (b : Code) (Q : X → AF → St → Prop) (f : AF) (s : St) : Then P tab b Q .ret f s ↔ Q .ret f s := Iff.rfl

theorem runs_skip_iff (f : AF) (s : St) (Q : X → AF → St → Prop) : Runs P tab .skip f s Q ↔ Q .normal f s :=
  ⟨fun ⟨n, x, f1, s1, h, q⟩ => by obtain ⟨k, rfl, h⟩ := exec_some_succ h; cases h; exact q, runs_skip⟩
theorem runs_exit_iff (i : Nat) (f : AF) (s : St) (Q : X → AF → St → Prop) : Runs P tab (.exit i) f s Q ↔ Q (.exit i) f s :=
  ⟨fun ⟨n, x, f1, s1, h, q⟩ => by obtain ⟨k, rfl, h⟩ := exec_some_succ h; cases h; exact q, runs_exit⟩
theorem runs_ret_iff (f : AF) (s : St) (Q : X → AF → St → Prop) : Runs P tab .ret f s Q ↔ Q .ret f s :=
  ⟨fun ⟨n, x, f1, s1, h, q⟩ => by obtain ⟨k, rfl, h⟩ := exec_some_succ h; cases h; exact q, runs_ret⟩
theorem runs_scope_iff (b : Code) (f : AF) (s : St) (Q : X → AF → St → Prop) : Runs P tab (.scope b) f s Q ↔ Runs P tab b f s Q :=
  ⟨fun ⟨n, x, f1, s1, h, q⟩ => by obtain ⟨k, rfl, h⟩ := exec_some_succ h; exact ⟨k, x, f1, s1, h, q⟩, runs_scope⟩

theorem runs_ops_iff (id : Nat) (l : List Oper) (f : AF) (s : St) (Q : X → AF → St → Prop) : Runs P tab (.region id (List.toArray l) false) f s Q ↔ OpsA P tab l l f s fun f1 s1 => Q .normal f1 s1 := by
  constructor
  · rintro ⟨n, x, f1, s1, h0, q⟩
    obtain ⟨k, -, h⟩ := exec_some_succ h0
    simp only [stepCode] at h
    cases ho : execOps P tab (exec P tab k) l l f s with
    | none => rw [ho] at h; cases h
    | some r => rw [ho] at h; cases h; exact ⟨k, _, _, ho, q⟩
  · exact runs_ops

theorem runs_block_iff (id : Nat) (b : Code) (f : AF) (s : St) (Q : X → AF → St → Prop) : Runs P tab (.block id b) f s Q ↔ Runs P tab b f s (Out id Q) := by
  constructor
  · rintro ⟨n, x, f1, s1, h0, q⟩
    obtain ⟨k, -, h⟩ := exec_some_succ h0
    simp only [stepCode] at h
    cases ha : exec P tab k b f s with
    | none => rw [ha] at h; cases h
    | some r =>
      obtain ⟨y, f2, s2⟩ := r
      rw [ha] at h
      refine ⟨k, y, f2, s2, ha, ?_⟩
      cases y with
      | normal => cases h; exact q
      | ret => cases h; exact q
      | exit i =>
        unfold Out
        dsimp only at h ⊢
        by_cases hi : i = id
        · subst hi
          simp at h
          obtain ⟨rfl, rfl, rfl⟩ := h
          rw [if_pos rfl]; exact q
        · have : Nat.beq i id = false := by
            cases hb : Nat.beq i id
            · rfl
            · exact absurd (Nat.eq_of_beq_eq_true hb) hi
          rw [this] at h
          cases h
          rw [if_neg hi]; exact q
  · exact runs_block

theorem out_normal (id : Nat) (Q : X → AF → St → Prop) (f : AF) (s : St) : Out id Q .normal f s ↔ Q .normal f s := Iff.rfl
theorem out_ret (id : Nat) (Q : X → AF → St → Prop) (f : AF) (s : St) : Out id Q .ret f s ↔ Q .ret f s := Iff.rfl
theorem out_exit (id i : Nat) (Q : X → AF → St → Prop) (f : AF) (s : St) : Out id Q (.exit i) f s ↔ @IfB (decide (i = id)) ⟨Q .normal f s⟩ ⟨Q (.exit i) f s⟩ := by
  unfold Out IfB
  dsimp only
  by_cases hi : i = id
  · rw [if_pos hi, decide_eq_true hi]
  · rw [if_neg hi, decide_eq_false hi]

def CondB (v : Option Value) [a : K0] [b : K0] : Prop := (v = some (.bool true) ∧ a.p) ∨ (v = some (.bool false) ∧ b.p)
theorem condB_true (a b : Prop) : @CondB (some (.bool true)) ⟨a⟩ ⟨b⟩ ↔ a := by simp [CondB]
theorem condB_false (a b : Prop) : @CondB (some (.bool false)) ⟨a⟩ ⟨b⟩ ↔ b := by simp [CondB]
theorem runs_cond_iff (c : Operand) (a b : Code) (f : AF) (s : St) (Q : X → AF → St → Prop) : Runs P tab (.cond c a b) f s Q ↔ @CondB (f.eval c) ⟨Runs P tab a f s Q⟩ ⟨Runs P tab b f s Q⟩ := by
  constructor
  · rintro ⟨n, x, f1, s1, h0, q⟩
    obtain ⟨k, -, h⟩ := exec_some_succ h0
    simp only [stepCode] at h
    split at h
    · rename_i hc; exact .inl ⟨hc, k, _, _, _, h, q⟩
    · rename_i hc; exact .inr ⟨hc, k, _, _, _, h, q⟩
    · cases h
  · rintro (⟨hc, h⟩ | ⟨hc, h⟩)
    · exact runs_cond_true hc h
    · exact runs_cond_false hc h

/-- A loop. -/
def LoopB (P : Program) (tab : Tab) (f : AF) (s : St) [b : KC] [q : KX] : Prop := Runs P tab (.loop b.c) f s q.q
theorem runs_loop_iff (b : Code) (f : AF) (s : St) (Q : X → AF → St → Prop) : Runs P tab (.loop b) f s Q ↔ @LoopB P tab f s ⟨b⟩ ⟨Q⟩ := Iff.rfl

/-- A loop with what holds at its head, and a number that falls. -/
theorem loopB {b : Code} {Q : X → AF → St → Prop} (I : Nat → AF → St → Prop)
    (step : ∀ k f s, I k f s → Runs P tab b f s fun x f1 s1 => match x with | .normal => ∃ j, j < k ∧ I j f1 s1 | x => Q x f1 s1) :
    ∀ {k : Nat} {f : AF} {s : St}, I k f s → @LoopB P tab f s ⟨b⟩ ⟨Q⟩ := by
  intro k
  induction k using Nat.strongRecOn with
  | ind k ih =>
    intro f s h
    refine runs_loop ((step k f s h).mono fun x f1 s1 q => ?_)
    cases x with
    | normal =>
      obtain ⟨j, hj, q⟩ := q
      exact ih j hj q
    | exit i => exact q
    | ret => exact q

/-! ### results -/

def ResB (o : Option (List Value × St)) [q : K2] : Prop := ∃ vs s, o = some (vs, s) ∧ q.k (one vs) s
theorem resB_some (vs : List Value) (s : St) (Q : Value → St → Prop) : @ResB (some (vs, s)) ⟨Q⟩ ↔ Q (one vs) s := by
  constructor
  · rintro ⟨_, _, h, q⟩; cases h; exact q
  · intro q; exact ⟨_, _, rfl, q⟩
theorem res_normal (l : List ResultVar) (Q : Value → St → Prop) (f : AF) (s : St) : Res P l Q .normal f s ↔ @ResB (resultsA P f l s) ⟨Q⟩ := Iff.rfl
theorem res_ret (l : List ResultVar) (Q : Value → St → Prop) (f : AF) (s : St) : Res P l Q .ret f s ↔ @ResB (resultsA P f l s) ⟨Q⟩ := Iff.rfl
theorem resultsA_nil (f : AF) (s : St) : resultsA P f [] s = some ([], s) := rfl
theorem resultsA_one (f : AF) (t : Tmp) (s : St) : resultsA P f [.tmp t] s = some ([f.get t], s) := rfl
theorem resultsA_two (f : AF) (t u : Tmp) (s : St) : resultsA P f [.tmp t, .tmp u] s = some ([f.get t, f.get u], s) := rfl
theorem one_one (v : Value) : one [v] = v := rfl
theorem one_two (v u : Value) : one [v, u] = .tuple ⟨[v, u]⟩ := rfl

def upl : List Value → Nat → AF → AF
  | [], _, f => f
  | v :: l, i, f => upl l (i + 1) (f.up i v)
theorem upl_nil (i : Nat) (f : AF) : upl [] i f = f := rfl
theorem upl_cons (v : Value) (l : List Value) (i : Nat) (f : AF) : upl (v :: l) i f = upl l (i + 1) (f.up i v) := rfl
theorem upl_ofList : ∀ (l : List Value) (i : Nat) (t : T Value) (n : Nat), upl l i ⟨t, n⟩ = ⟨ofList l i t, n⟩
  | [], i, t, n => rfl
  | v :: l, i, t, n => upl_ofList l (i + 1) (t.set i (some v)) n

theorem callA_of {g : FuncId} {fn : Func} {c : Code} {rs : List ResultVar} {n : Nat} {args : List Value} {s : St} {Q : Value → St → Prop} (hg : tab.t.get g = some fn) (hb : fn.body = some c) (hr : fn.results.toList = rs)
    (hn : fn.ntmps = n) (hl : args.length ≤ n) (h : Runs P tab c (upl args 0 ⟨.nil, n⟩) s (Res P rs Q)) (hk : tab.kn g args = none := by kernel_rfl) : CallA P tab g args s Q := by
  refine call_of hk hg hb ?_
  rw [hr]
  unfold enterA
  rw [upl_ofList] at h
  rw [hn, show args.length + (n - args.length) = n from by omega]
  exact h

/-! ### a test whose outcome isn't known -/

def TestB (b : Bool) [k : K1 Bool] : Prop := k.k b
theorem testB_true (k : Bool → Prop) : @TestB true ⟨k⟩ ↔ k true := Iff.rfl
theorem testB_false (k : Bool → Prop) : @TestB false ⟨k⟩ ↔ k false := Iff.rfl
theorem testB {b : Bool} {k : Bool → Prop} (h1 : b = true → k true) (h2 : b = false → k false) : @TestB b ⟨k⟩ := by
  cases b
  · exact h2 rfl
  · exact h1 rfl
theorem bindO_bool (b : Bool) (k : Value → Prop) : @BindO Value (some (.bool b)) ⟨k⟩ ↔ @TestB b ⟨fun b => k (.bool b)⟩ := bindO_some _ _

theorem eval_tmp (f : AF) (t : Tmp) : f.eval (.tmp t) = some (f.get t) := rfl
theorem eval_int (f : AF) (k : IntKind) (n : Int) : f.eval (.const (.int k n)) = some (.int k n) := rfl
theorem eval_bool (f : AF) (b : Bool) : f.eval (.const (.bool b)) = some (.bool b) := rfl
theorem eval_nilp (f : AF) : f.eval (.const (.pointer none)) = some (.pointer none) := rfl
theorem eval_nils (f : AF) : f.eval (.const (.slice none 0 0)) = some (.slice none 0 0) := rfl
theorem eval_func (f : AF) (g : FuncId) : f.eval (.func g) = some (.func (.func g) #[] #[]) := rfl
theorem evals_nil (f : AF) : evals f [] = some [] := rfl
theorem evals_tmp (f : AF) (t : Tmp) (l : List Operand) : evals f (.tmp t :: l) = (evals f l).map (f.get t :: ·) := by simp only [evals, AF.eval]; cases evals f l <;> rfl
theorem evals_int (f : AF) (k : IntKind) (n : Int) (l : List Operand) : evals f (.const (.int k n) :: l) = (evals f l).map (.int k n :: ·) := by
  simp only [evals, eval_int]; cases evals f l <;> rfl

end
end Go.Ax
