/- AX: the rules' marks, and facts of types. -/
import Derived.Test.YtefogennhgacjaaGreatAxWps
namespace Go.Ax
set_option linter.unusedSimpArgs false
set_option linter.unusedVariables false
open Go

attribute [simp ↓] bindO_some ifB_true ifB_false runA_ld runA_st runA_ret runA_nw runA_rd runA_wr runA_kl runA_ofOpt ldB_cells ldB_ro stB_cells putB_none putB_some gdst_zero gdst_succ ops_nil_iff ops_cons_iff one_none_iff one_some_iff
  tarB_some runs_seq_iff then_normal then_exit then_ret runs_skip_iff runs_exit_iff runs_ret_iff runs_scope_iff runs_ops_iff runs_block_iff out_normal out_ret out_exit condB_true condB_false runs_cond_iff runs_loop_iff
  resB_some res_normal res_ret resultsA_nil resultsA_one resultsA_two one_one one_two upl_nil upl_cons testB_true testB_false bindO_bool
attribute [simp] AF.up_n AF.get_up AF.get_nil gval_some gv_bool gv_undef dst_eq T.get_set eval_tmp eval_int eval_bool eval_nilp eval_nils eval_func evals_nil evals_tmp evals_int rowCells_cells rowCells_ro

@[simp ↓] theorem opB_move {P : Program} {tab : Tab} (f : AF) (x : Operand) (s : St) (Q : Value → St → Prop) : @OpB P tab f (.move x) s ⟨Q⟩ ↔ @BindO _ (f.eval x) ⟨fun v => Q v s⟩ := by
  rw [opB_run _ _ _ _ rfl]; exact runA_ofOpt _ _ _
@[simp ↓] theorem opB_assign {P : Program} {tab : Tab} (f : AF) (x : Operand) (s : St) (Q : Value → St → Prop) : @OpB P tab f (.assign x) s ⟨Q⟩ ↔ @BindO _ (f.eval x) ⟨fun v => Q v s⟩ := by
  rw [opB_run _ _ _ _ rfl]; exact runA_ofOpt _ _ _

def pickO (c a b : Option Value) : Option Value := match c with
  | some (.bool true) => a
  | some (.bool false) => b
  | _ => none
@[simp] theorem pickO_true (a b : Option Value) : pickO (some (.bool true)) a b = a := rfl
@[simp] theorem pickO_false (a b : Option Value) : pickO (some (.bool false)) a b = b := rfl
@[simp ↓] theorem opB_pick {P : Program} {tab : Tab} (f : AF) (c a b : Operand) (s : St) (Q : Value → St → Prop) : @OpB P tab f (.pick c a b) s ⟨Q⟩ ↔ @BindO _ (pickO (f.eval c) (f.eval a) (f.eval b)) ⟨fun v => Q v s⟩ := by
  rw [opB_run _ _ _ _ rfl]
  have : aOp P f (.pick c a b) = A.ofOpt (pickO (f.eval c) (f.eval a) (f.eval b)) := by
    unfold pickO aOp
    dsimp only
    cases f.eval c with
    | none => rfl
    | some v =>
      cases v <;> try rfl
      rename_i b
      cases b <;> rfl
  rw [this]
  exact runA_ofOpt _ _ _

/-- Two operands' values. -/
def two (a b : Option Value) : Option (Value × Value) := match a, b with
  | some a, some b => some (a, b)
  | _, _ => none
@[simp] theorem two_some (a b : Value) : two (some a) (some b) = some (a, b) := rfl

def BinB (P : Program) (op : BinOp) (t : TypeId) (x y : Operand) (a b : Value) [k : K1 Value] : Prop := @BindO _ (aBin P op t x y a b) k
@[simp ↓] theorem opB_bin {P : Program} {tab : Tab} (f : AF) (op : BinOp) (t u : TypeId) (x y : Operand) (s : St) (Q : Value → St → Prop) :
    @OpB P tab f (.binOp op t x y u) s ⟨Q⟩ ↔ @BindO _ (two (f.eval x) (f.eval y)) ⟨fun p => @BinB P op t x y p.1 p.2 ⟨fun v => Q v s⟩⟩ := by
  rw [opB_run _ _ _ _ rfl]
  have : aOp P f (.binOp op t x y u) = match f.eval x, f.eval y with
    | some a, some b => A.ofOpt (aBin P op t x y a b)
    | _, _ => .fail := rfl
  rw [this]
  cases f.eval x with
  | none => simp [two, BindO, RunA, A.run]
  | some a => cases f.eval y with
    | none => simp [two, BindO, RunA, A.run]
    | some b => rw [two_some, bindO_some]; exact runA_ofOpt _ _ _

section
variable {P : Program} (t : TypeId) (x y : Operand) (k : IntKind) (a b : Int) (K : Value → Prop)
theorem aBin_int {op : BinOp} {v : Value} (h : intOp op k a b = some v) : aBin P op t x y (.int k a) (.int k b) = some v := by
  unfold aBin aBinInt
  dsimp only
  rw [show Nat.beq (kindNo k) (kindNo k) = true from by simp, h]
@[simp ↓] theorem bin_add : @BinB P .add t x y (.int k a) (.int k b) ⟨K⟩ ↔ K (.int k (k.wrap (a + b))) := by unfold BinB; rw [aBin_int t x y k a b rfl]; exact bindO_some _ _
@[simp ↓] theorem bin_sub : @BinB P .sub t x y (.int k a) (.int k b) ⟨K⟩ ↔ K (.int k (k.wrap (a - b))) := by unfold BinB; rw [aBin_int t x y k a b rfl]; exact bindO_some _ _
@[simp ↓] theorem bin_eql : @BinB P .eql t x y (.int k a) (.int k b) ⟨K⟩ ↔ @TestB (decide (a = b)) ⟨fun r => K (.bool r)⟩ := by
  unfold BinB; rw [aBin_int t x y k a b rfl, bindO_some]
  rw [show (a == b) = decide (a = b) from rfl]; rfl
@[simp ↓] theorem bin_neq : @BinB P .neq t x y (.int k a) (.int k b) ⟨K⟩ ↔ @TestB (!decide (a = b)) ⟨fun r => K (.bool r)⟩ := by
  unfold BinB; rw [aBin_int t x y k a b rfl, bindO_some]
  rw [show (a == b) = decide (a = b) from rfl]; rfl
@[simp ↓] theorem bin_lss : @BinB P .lss t x y (.int k a) (.int k b) ⟨K⟩ ↔ @TestB (decide (a < b)) ⟨fun r => K (.bool r)⟩ := by
  unfold BinB; rw [aBin_int t x y k a b rfl, bindO_some, iLt_eq]; rfl
@[simp ↓] theorem bin_leq : @BinB P .leq t x y (.int k a) (.int k b) ⟨K⟩ ↔ @TestB (decide (a ≤ b)) ⟨fun r => K (.bool r)⟩ := by
  unfold BinB; rw [aBin_int t x y k a b rfl, bindO_some, iLe_eq]; rfl
@[simp ↓] theorem bin_gtr : @BinB P .gtr t x y (.int k a) (.int k b) ⟨K⟩ ↔ @TestB (decide (b < a)) ⟨fun r => K (.bool r)⟩ := by
  unfold BinB; rw [aBin_int t x y k a b rfl, bindO_some, iLt_eq]; rfl
@[simp ↓] theorem bin_geq : @BinB P .geq t x y (.int k a) (.int k b) ⟨K⟩ ↔ @TestB (decide (b ≤ a)) ⟨fun r => K (.bool r)⟩ := by
  unfold BinB; rw [aBin_int t x y k a b rfl, bindO_some, iLe_eq]; rfl
end

/-! ### arguments of operations -/
section
variable {P : Program} {tab : Tab} (f : AF) (s : St) (Q : Value → St → Prop)

@[simp ↓] theorem opB_alloc (e : TypeId) : @OpB P tab f (.alloc e) s ⟨Q⟩ ↔ @BindO _ (zeroOf P e) ⟨fun z => Q (.pointer (some ⟨s.n, 0, none⟩)) (s.nw (.cells (cellsOf z)))⟩ := by
  rw [opB_run _ _ _ _ rfl]
  unfold aOp
  dsimp only
  cases zeroOf P e with
  | none => simp [BindO, RunA, A.run]
  | some z => rw [bindO_some]; dsimp only; rw [runA_nw, runA_ret]

def PlB (b : Bool) [k : K0] : Prop := b = true ∧ k.p
@[simp ↓] theorem plB_true (p : Prop) : @PlB true ⟨p⟩ ↔ p := by simp [PlB]

@[simp ↓] theorem opB_box (e : TypeId) (x : Operand) : @OpB P tab f (.box e x) s ⟨Q⟩ ↔ @BindO _ (f.eval x) ⟨fun v => @PlB (plains (cellsOf v)) ⟨Q (.pointer (some ⟨s.n, 0, none⟩)) (s.nw (.cells (cellsOf v)))⟩⟩ := by
  rw [opB_run _ _ _ _ rfl]
  unfold aOp
  dsimp only
  cases f.eval x with
  | none => simp [BindO, RunA, A.run]
  | some v =>
    rw [bindO_some]
    dsimp only
    cases plains (cellsOf v) with
    | false => simp [RunA, A.run, PlB]
    | true => dsimp only; rw [runA_nw, runA_ret, plB_true]

@[simp ↓] theorem opB_load (t : TypeId) (a : Operand) : @OpB P tab f (.load t a) s ⟨Q⟩ ↔ @BindO _ (f.eval a) ⟨fun a => @RunA (aLoad P t a) s ⟨Q⟩⟩ := by
  rw [opB_run _ _ _ _ rfl]
  unfold aOp
  dsimp only
  cases f.eval a with
  | none => simp [BindO, RunA, A.run]
  | some v => rw [bindO_some]

@[simp ↓] theorem opB_store (t : TypeId) (a x : Operand) : @OpB P tab f (.store t a x) s ⟨Q⟩ ↔ @BindO _ (two (f.eval a) (f.eval x)) ⟨fun p => @RunA ((aStore P t p.1 p.2).bind fun _ => .ret undef) s ⟨Q⟩⟩ := by
  rw [opB_run _ _ _ _ rfl]
  unfold aOp
  dsimp only
  cases f.eval a with
  | none => simp [BindO, RunA, A.run, two]
  | some v => cases f.eval x with
    | none => simp [BindO, RunA, A.run, two]
    | some u => rw [two_some, bindO_some]

@[simp ↓] theorem opB_nilCheck (x : Operand) : @OpB P tab f (.nilCheck x) s ⟨Q⟩ ↔ @BindO _ (f.eval x) ⟨fun v => @BindO _ (aNilCheck v) ⟨fun v => Q v s⟩⟩ := by
  rw [opB_run _ _ _ _ rfl]
  unfold aOp
  dsimp only
  cases f.eval x with
  | none => simp [BindO, RunA, A.run]
  | some v => rw [bindO_some]; exact runA_ofOpt _ _ _
@[simp] theorem nilCheck_ptr (a : Addr) : aNilCheck (.pointer (some a)) = some (.pointer (some a)) := rfl

@[simp ↓] theorem opB_fieldAddr (t : TypeId) (x : Operand) (n : Nat) : @OpB P tab f (.fieldAddr t x n) s ⟨Q⟩ ↔ @BindO _ (f.eval x) ⟨fun v => @BindO _ (aFieldAddr P t v n) ⟨fun v => Q v s⟩⟩ := by
  rw [opB_run _ _ _ _ rfl]
  unfold aOp
  dsimp only
  cases f.eval x with
  | none => simp [BindO, RunA, A.run]
  | some v => rw [bindO_some]; exact runA_ofOpt _ _ _

@[simp ↓] theorem opB_indexAddr (t : TypeId) (x i : Operand) : @OpB P tab f (.indexAddr t x i) s ⟨Q⟩ ↔ @BindO _ (two (f.eval x) (f.eval i)) ⟨fun p => @BindO _ (aIndexAddr P t p.1 p.2) ⟨fun v => Q v s⟩⟩ := by
  rw [opB_run _ _ _ _ rfl]
  unfold aOp
  dsimp only
  cases f.eval x with
  | none => simp [BindO, RunA, A.run, two]
  | some v => cases f.eval i with
    | none => simp [BindO, RunA, A.run, two]
    | some u => rw [two_some, bindO_some]; exact runA_ofOpt _ _ _

@[simp ↓] theorem opB_extract (x : Operand) (n : Nat) : @OpB P tab f (.extract x n) s ⟨Q⟩ ↔ @BindO _ (f.eval x) ⟨fun v => @BindO _ (aExtract v n) ⟨fun v => Q v s⟩⟩ := by
  rw [opB_run _ _ _ _ rfl]
  unfold aOp
  dsimp only
  cases f.eval x with
  | none => simp [BindO, RunA, A.run]
  | some v => rw [bindO_some]; exact runA_ofOpt _ _ _
@[simp] theorem extract_zero (v : Value) (l : List Value) : aExtract (.tuple ⟨v :: l⟩) 0 = some v := rfl
@[simp] theorem extract_one (v u : Value) (l : List Value) : aExtract (.tuple ⟨v :: u :: l⟩) 1 = some u := rfl

@[simp ↓] theorem opB_builtin (b : Builtin) (args : List Operand) (tys : List TypeId) : @OpB P tab f (.call ⟨.builtin b, List.toArray args, List.toArray tys⟩) s ⟨Q⟩ ↔ @BindO _ (evals f args) ⟨fun vs => @RunA (aBuiltin P b tys vs) s ⟨Q⟩⟩ := by
  rw [opB_run _ _ _ _ rfl]
  unfold aOp
  dsimp only
  cases evals f args with
  | none => simp [BindO, RunA, A.run]
  | some v => rw [bindO_some]

@[simp ↓] theorem opB_callg (g : FuncId) (args : List Operand) (tys : Array TypeId) : @OpB P tab f (.call ⟨.value (.func g), List.toArray args, tys⟩) s ⟨Q⟩ ↔ @BindO _ (evals f args) ⟨fun vs => @CallB P tab g vs s ⟨Q⟩⟩ := by
  rw [opB_call _ _ _ _ rfl]
  unfold aTarget
  dsimp only
  cases evals f args with
  | none => simp [BindO, TarB]
  | some v => rw [bindO_some]; simp [eval_func, tarB_some]

def TgtB (P : Program) (tab : Tab) (v : Option Value) (vs : List Value) (s : St) [q : K2] : Prop := ∃ g first captured, v = some (.func (.func g) ⟨first⟩ ⟨captured⟩) ∧ CallA P tab g ((first ++ vs) ++ captured) s q.k
@[simp ↓] theorem tgtB_func (g : FuncId) (first captured vs : List Value) : @TgtB P tab (some (.func (.func g) (List.toArray first) (List.toArray captured))) vs s ⟨Q⟩ ↔ @CallB P tab g ((first ++ vs) ++ captured) s ⟨Q⟩ := by
  constructor
  · rintro ⟨_, _, _, h, q⟩; cases h; exact q
  · intro q; exact ⟨_, _, _, rfl, q⟩
@[simp ↓] theorem opB_callv (t : Tmp) (args : List Operand) (tys : Array TypeId) : @OpB P tab f (.call ⟨.value (.tmp t), List.toArray args, tys⟩) s ⟨Q⟩ ↔ @BindO _ (evals f args) ⟨fun vs => @TgtB P tab (f.eval (.tmp t)) vs s ⟨Q⟩⟩ := by
  rw [opB_call _ _ _ _ rfl]
  unfold aTarget
  dsimp only
  cases evals f args with
  | none => simp [BindO, TarB]
  | some v =>
    rw [bindO_some]
    dsimp only
    constructor
    · rintro ⟨g, as, h, q⟩
      split at h
      · rename_i g' first captured hx
        cases h
        exact ⟨_, _, _, hx, q⟩
      · cases h
    · rintro ⟨g, first, captured, h, q⟩
      refine ⟨g, _, ?_, q⟩
      simp only [h]

@[simp ↓] theorem opB_makeFunc (g : FuncId) (a b : List Operand) : @OpB P tab f (.makeFunc (.func g) (List.toArray a) (List.toArray b)) s ⟨Q⟩ ↔ @BindO _ (evals f a) ⟨fun x => @BindO _ (evals f b) ⟨fun y => Q (.func (.func g) (List.toArray x) (List.toArray y)) s⟩⟩ := by
  rw [opB_run _ _ _ _ rfl]
  unfold aOp
  dsimp only
  cases evals f a with
  | none => simp [BindO, RunA, A.run]
  | some x => cases evals f b with
    | none => simp [BindO, RunA, A.run]
    | some y => rw [bindO_some, bindO_some]; exact runA_ret _ _ _

@[simp ↓] theorem opB_build (t : TypeId) (parts : List (Nat × Operand)) : @OpB P tab f (.build t (List.toArray parts)) s ⟨Q⟩ ↔ @BindO _ (evals f (parts.map (·.2))) ⟨fun vs => @BindO _ (aBuild P t ((parts.map (·.1)).zip vs)) ⟨fun v => Q v s⟩⟩ := by
  rw [opB_run _ _ _ _ rfl]
  unfold aOp
  dsimp only
  cases evals f (parts.map (·.2)) with
  | none => simp [BindO, RunA, A.run]
  | some x => rw [bindO_some]; exact runA_ofOpt _ _ _

@[simp ↓] theorem opB_buildSlice (t : TypeId) (n : Nat) (parts : List (Nat × Operand)) : @OpB P tab f (.buildSlice t n (List.toArray parts)) s ⟨Q⟩ ↔ @BindO _ (evals f (parts.map (·.2))) ⟨fun vs => @RunA (aBuildSlice P t n ((parts.map (·.1)).zip vs)) s ⟨Q⟩⟩ := by
  rw [opB_run _ _ _ _ rfl]
  unfold aOp
  dsimp only
  cases evals f (parts.map (·.2)) with
  | none => simp [BindO, RunA, A.run]
  | some x => rw [bindO_some]

def UnB (op : UnOp) (v : Value) (P : Program) [k : K1 Value] : Prop := @BindO _ (match closed v with | true => ofPv (pv P (Op.unary op v)) | false => none) k
@[simp ↓] theorem opB_un (op : UnOp) (t : TypeId) (x : Operand) : @OpB P tab f (.unOp op t x) s ⟨Q⟩ ↔ @BindO _ (f.eval x) ⟨fun v => @UnB op v P ⟨fun v => Q v s⟩⟩ := by
  rw [opB_run _ _ _ _ rfl]
  unfold aOp UnB
  dsimp only
  cases f.eval x with
  | none => simp [BindO, RunA, A.run]
  | some v =>
    rw [bindO_some]
    dsimp only
    cases closed v with
    | false => simp [BindO, RunA, A.run]
    | true => exact runA_ofOpt _ _ _
@[simp ↓] theorem un_not (b : Bool) (K : Value → Prop) : @UnB .not (.bool b) P ⟨K⟩ ↔ K (.bool (!b)) := by
  unfold UnB
  rw [show (match closed (.bool b) with | true => ofPv (pv P (Op.unary .not (.bool b))) | false => none) = some (.bool (!b)) from rfl]
  exact bindO_some _ _

def SlcB (P : Program) (t : TypeId) (v : Value) (lo hi mx : Option Value) (s : St) [q : K2] : Prop := @RunA (match v with
      | .string st => A.ofOpt (match closedO lo && closedO hi && closedO mx with | true => ofPv (pv P (Instr.sliceAt t (.string st) lo hi mx)) | false => none)
      | v => match elemOfSlice P t with
        | some e => match pv P (sizeOf e) with
          | some sz => match aSlice sz v lo hi mx, mx with
            | some r, _ => .ret r
            | none, none => aSliceFar sz v lo hi
            | none, some _ => .fail
          | none => .fail
        | none => .fail) s q

def three (a b c : Option (Option Value)) : Option (Option Value × Option Value × Option Value) := match a, b, c with
  | some a, some b, some c => some (a, b, c)
  | _, _, _ => none
@[simp] theorem three_some (a b c : Option Value) : three (some a) (some b) (some c) = some (a, b, c) := rfl
@[simp] theorem evalO_none (f : AF) : evalO f none = some none := rfl
@[simp] theorem evalO_tmp (f : AF) (t : Tmp) : evalO f (some (.tmp t)) = some (some (f.get t)) := rfl
@[simp ↓] theorem opB_slice (t : TypeId) (x : Operand) (lo hi mx : Option Operand) : @OpB P tab f (.slice t x lo hi mx) s ⟨Q⟩ ↔ @BindO _ (f.eval x) ⟨fun v => @BindO _ (three (evalO f lo) (evalO f hi) (evalO f mx)) ⟨fun p => @SlcB P t v p.1 p.2.1 p.2.2 s ⟨Q⟩⟩⟩ := by
  rw [opB_run _ _ _ _ rfl]
  unfold aOp SlcB
  dsimp only
  cases f.eval x with
  | none => simp [BindO, RunA, A.run]
  | some v =>
    rw [bindO_some]
    cases evalO f lo with
    | none => simp [BindO, RunA, A.run, three]
    | some a => cases evalO f hi with
      | none => simp [BindO, RunA, A.run, three]
      | some b => cases evalO f mx with
        | none => simp [BindO, RunA, A.run, three]
        | some c =>
          rw [three_some, bindO_some]
          exact Iff.rfl

def MiB (P : Program) (t : TypeId) (v : Value) (s : St) [q : K2] : Prop := @RunA (match pv P (underlying t) with | some (.interface _) => .fail | some _ => .ret (.iface t v) | none => .fail) s q
@[simp ↓] theorem opB_makeInterface (t : TypeId) (x : Operand) : @OpB P tab f (.makeInterface t x) s ⟨Q⟩ ↔ @BindO _ (f.eval x) ⟨fun v => @MiB P t v s ⟨Q⟩⟩ := by
  rw [opB_run _ _ _ _ rfl]
  unfold aOp MiB
  dsimp only
  cases f.eval x with
  | none => simp [BindO, RunA, A.run]
  | some v => rw [bindO_some]; cases pv P (underlying t) with
    | none => rfl
    | some d => cases d <;> rfl
@[simp ↓] theorem opB_typeAssert (x : Operand) (t u : TypeId) (ok : Bool) : @OpB P tab f (.typeAssert x t u ok) s ⟨Q⟩ ↔ @BindO _ (f.eval x) ⟨fun v => @BindO _ (aTypeAssert P v u ok) ⟨fun v => Q v s⟩⟩ := by
  rw [opB_run _ _ _ _ rfl]
  unfold aOp
  dsimp only
  cases f.eval x with
  | none => simp [BindO, RunA, A.run]
  | some v => rw [bindO_some]; exact runA_ofOpt _ _ _
end

/-! ### facts of types -/
section
variable {P : Program}
theorem ia_of {t e : TypeId} {sz : Nat} (hu : pv P (underlying t) = some (.slice e)) (hs : pv P (sizeOf e) = some sz) (i o : Nat) (sp : Option Nat) (len cap : Nat) (k : IntKind) (j : Nat) (h : j < len) :
    aIndexAddr P t (.slice (some ⟨i, o, sp⟩) len cap) (.int k (j : Int)) = some (.pointer (some ⟨i, o + j * sz, none⟩)) := by
  unfold aIndexAddr
  dsimp only
  rw [hu]
  dsimp only
  rw [hs]
  have : (decide ((0 : Int) ≤ (j : Int)) && decide ((j : Int) < (len : Int))) = true := by simp; omega
  rw [this]
  simp
theorem len_of {t e : TypeId} (hu : pv P (underlying t) = some (.slice e)) (o : Option Addr) (len cap : Nat) (h : (Value.slice o len cap) = .slice none 0 0 ∨ o ≠ none) : aBuiltin P .len [t] [.slice o len cap] = .ret (.int .i64 len) := by
  unfold aBuiltin
  dsimp only
  rw [hu]
  rcases h with h | h
  · cases h; rfl
  · cases o with
    | none => exact absurd rfl h
    | some a => rfl
theorem lda_of {t : TypeId} {sz : Nat} (ha : pv P (isAgg t) = some true) (hs : pv P (sizeOf t) = some sz) (i o : Nat) : aLoad P t (.pointer (some ⟨i, o, none⟩)) = (ldCells i o sz).bind fun l => .ret (.agg (List.toArray l)) := by
  unfold aLoad
  dsimp only
  rw [ha]; dsimp only; rw [hs]
def headR : List Value → A Value
  | [v] => .ret v
  | _ => .fail
@[simp] theorem headR_one (v : Value) : headR [v] = .ret v := rfl
theorem ld1_of {t : TypeId} (ha : pv P (isAgg t) = some false) (i o : Nat) : aLoad P t (.pointer (some ⟨i, o, none⟩)) = (ldCells i o 1).bind headR := by
  unfold aLoad
  dsimp only
  rw [ha]
  show (ldCells i o 1).bind _ = _
  congr 1
theorem st1_of {t : TypeId} (hs : pv P (sizeOf t) = some 1) (i o : Nat) (v : Value) (hv : plain v = true) : aStore P t (.pointer (some ⟨i, o, none⟩)) v = stCells i o [v] := by
  unfold aStore
  dsimp only
  rw [hs]
  have : cellsOf v = [v] := by cases v <;> first | rfl | cases hv
  rw [this]; rfl
theorem sta_of {t : TypeId} {sz : Nat} (hs : pv P (sizeOf t) = some sz) (i o : Nat) (l : List Value) (hl : l.length = sz) : aStore P t (.pointer (some ⟨i, o, none⟩)) (.agg (List.toArray l)) = stCells i o l := by
  unfold aStore
  dsimp only
  rw [hs]
  dsimp only
  rw [show (cellsOf (.agg (List.toArray l))) = l from rfl, hl]
  simp
end
end Go.Ax
