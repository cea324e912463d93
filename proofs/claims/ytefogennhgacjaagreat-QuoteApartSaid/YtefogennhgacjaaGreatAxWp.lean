/- AX: what the executor's runs come to, without counting its steps. -/
import Derived.Test.YtefogennhgacjaaGreatAxTop
namespace Go.Ax
set_option linter.unusedSimpArgs false
set_option linter.unusedVariables false
open Go

section
variable {P : Program} {tab : Tab}

def ExLe (a b : Ex) : Prop := ∀ c f s r, a c f s = some r → b c f s = some r

theorem callF0_le {a b : Ex} (h : ExLe a b) {g : FuncId} {args : List Value} {s : St} {r : Value × St} (e : callF0 P tab a g args s = some r) : callF0 P tab b g args s = some r := by
  unfold callF0 at e ⊢
  cases hg : tab.t.get g with
  | none => rw [hg] at e; cases e
  | some fn =>
    rw [hg] at e
    dsimp only at e ⊢
    cases hb : fn.body with
    | none => rw [hb] at e; cases e
    | some c =>
      rw [hb] at e
      dsimp only at e ⊢
      cases hc : a c (enterA fn args) s with
      | none => rw [hc] at e; cases e
      | some q => rw [h _ _ _ _ hc]; rw [hc] at e; exact e

theorem callF_le {a b : Ex} (h : ExLe a b) {g : FuncId} {args : List Value} {s : St} {r : Value × St} (e : callF P tab a g args s = some r) : callF P tab b g args s = some r := by
  unfold callF at e ⊢
  cases hk : tab.kn g args with
  | some v => rw [hk] at e; exact e
  | none => rw [hk] at e; exact callF0_le h e

theorem runOper_le {a b : Ex} (h : ExLe a b) {o : Oper} {f : AF} {s : St} {r : Value × St} (e : runOper P tab a o f s = some r) : runOper P tab b o f s = some r := by
  unfold runOper at e ⊢
  cases ho : o.op <;> rw [ho] at e <;> try exact e
  rename_i c
  dsimp only at e ⊢
  cases hc : c.callee with
  | builtin b => rw [hc] at e; exact e
  | value x =>
    rw [hc] at e
    dsimp only at e ⊢
    cases ht : aTarget P f c with
    | none => rw [ht] at e; cases e
    | some q => rw [ht] at e; exact callF_le h e
  | invoke x y =>
    rw [hc] at e
    dsimp only at e ⊢
    cases ht : aTarget P f c with
    | none => rw [ht] at e; cases e
    | some q => rw [ht] at e; exact callF_le h e

theorem runOne_le {a b : Ex} (h : ExLe a b) {ops : List Oper} {o : Oper} {f : AF} {s : St} {r : Value × St} (e : runOne P tab a ops o f s = some r) : runOne P tab b ops o f s = some r := by
  unfold runOne at e ⊢
  cases hw : wantedA ops o f <;> rw [hw] at e
  · exact e
  · exact runOper_le h e

theorem execOps_le {a b : Ex} (h : ExLe a b) {ops : List Oper} : ∀ {l : List Oper} {f : AF} {s : St} {r : AF × St}, execOps P tab a ops l f s = some r → execOps P tab b ops l f s = some r
  | [], f, s, r, e => e
  | o :: l, f, s, r, e => by
    unfold execOps at e ⊢
    cases hr : runOne P tab a ops o f s with
    | none => rw [hr] at e; cases e
    | some q =>
      rw [hr] at e
      rw [runOne_le h hr]
      dsimp only at e ⊢
      cases hp : f.put o.dst q.1 with
      | none => rw [hp] at e; cases e
      | some f1 => rw [hp] at e; exact execOps_le h e

theorem execDraw_le {a b : Ex} (h : ExLe a b) {ops : List Oper} {rl wl : List Nat} : ∀ {l : List Oper} {i : Nat} {prs : List (List Nat)} {did : List Did} {f : AF} {hh : T Row} {n : Nat} {r : AF × St},
    execDraw P tab a ops rl wl l i prs did f hh n = some r → execDraw P tab b ops rl wl l i prs did f hh n = some r
  | [], i, prs, did, f, hh, n, r, e => by cases prs <;> exact e
  | _ :: _, i, [], did, f, hh, n, r, e => e
  | o :: l, i, pr :: prs, did, f, hh, n, r, e => by
    unfold execDraw at e ⊢
    cases hr : runOne P tab a ops o f ⟨hh, n, [], []⟩ with
    | none => rw [hr] at e; cases e
    | some q =>
      obtain ⟨v, h1, n1, rl1, wl1⟩ := q
      rw [hr] at e
      rw [runOne_le h hr]
      dsimp only at e ⊢
      cases hm : mayAll ⟨i, pr, rl1, wl1⟩ did with
      | false => rw [hm] at e; cases e
      | true =>
        rw [hm] at e
        dsimp only at e ⊢
        cases hp : f.put o.dst v with
        | none => rw [hp] at e; cases e
        | some f1 => rw [hp] at e; exact execDraw_le h e

theorem stepCode_le {a b : Ex} (h : ExLe a b) : ExLe (stepCode P tab a) (stepCode P tab b) := by
  intro c f s r e
  cases c <;> simp only [stepCode] at e ⊢ <;> try exact e
  case seq x y =>
    cases hx : a x f s with
    | none => rw [hx] at e; cases e
    | some q =>
      obtain ⟨z, f1, s1⟩ := q
      rw [hx] at e
      rw [h _ _ _ _ hx]
      cases z <;> first | exact h _ _ _ _ e | exact e
  case cond c x y =>
    split at e
    · exact h _ _ _ _ e
    · exact h _ _ _ _ e
    · cases e
  case block id x =>
    cases hx : a x f s with
    | none => rw [hx] at e; cases e
    | some q =>
      rw [hx] at e
      rw [h _ _ _ _ hx]
      exact e
  case loop x =>
    cases hx : a x f s with
    | none => rw [hx] at e; cases e
    | some q =>
      obtain ⟨z, f1, s1⟩ := q
      rw [hx] at e
      rw [h _ _ _ _ hx]
      cases z <;> first | exact h _ _ _ _ e | exact e
  case scope x => exact h _ _ _ _ e
  case region id ops d =>
    cases d
    · simp only [stepCode] at e ⊢
      cases hx : execOps P tab a ops.toList ops.toList f s with
      | none => rw [hx] at e; cases e
      | some q => rw [hx] at e; rw [execOps_le h hx]; exact e
    · obtain ⟨hh, n, rl, wl⟩ := s
      simp only [stepCode] at e ⊢
      cases hs : statOf ops with
      | none => rw [hs] at e; cases e
      | some prs =>
        rw [hs] at e
        dsimp only at e ⊢
        cases hx : execDraw P tab a ops.toList rl wl ops.toList 0 prs [] f hh n with
        | none => rw [hx] at e; cases e
        | some q => rw [hx] at e; rw [execDraw_le h hx]; exact e

theorem exec_le_succ (n : Nat) : ExLe (exec P tab n) (exec P tab (n + 1)) := by
  induction n with
  | zero => intro c f s r e; cases e
  | succ n ih => exact stepCode_le ih

theorem exec_le {n k : Nat} (h : n ≤ k) : ExLe (exec P tab n) (exec P tab k) := by
  induction h with
  | refl => exact fun _ _ _ _ e => e
  | step _ ih => exact fun c f s r e => exec_le_succ _ c f s r (ih c f s r e)

/-! ### runs -/

def Runs (P : Program) (tab : Tab) (c : Code) (f : AF) (s : St) (Q : X → AF → St → Prop) : Prop := ∃ n x f1 s1, exec P tab n c f s = some (x, f1, s1) ∧ Q x f1 s1

def CallA (P : Program) (tab : Tab) (g : FuncId) (args : List Value) (s : St) (Q : Value → St → Prop) : Prop := ∃ n v s1, callF P tab (exec P tab n) g args s = some (v, s1) ∧ Q v s1

def OneA (P : Program) (tab : Tab) (ops : List Oper) (o : Oper) (f : AF) (s : St) (Q : Value → St → Prop) : Prop := ∃ n v s1, runOne P tab (exec P tab n) ops o f s = some (v, s1) ∧ Q v s1

def OpsA (P : Program) (tab : Tab) (ops l : List Oper) (f : AF) (s : St) (Q : AF → St → Prop) : Prop := ∃ n f1 s1, execOps P tab (exec P tab n) ops l f s = some (f1, s1) ∧ Q f1 s1

def DrawA (P : Program) (tab : Tab) (ops : List Oper) (rl wl : List Nat) (l : List Oper) (i : Nat) (prs : List (List Nat)) (did : List Did) (f : AF) (h : T Row) (n : Nat) (Q : AF → St → Prop) : Prop :=
  ∃ k f1 s1, execDraw P tab (exec P tab k) ops rl wl l i prs did f h n = some (f1, s1) ∧ Q f1 s1

theorem Runs.mono {c : Code} {f : AF} {s : St} {Q R : X → AF → St → Prop} (h : Runs P tab c f s Q) (k : ∀ x f1 s1, Q x f1 s1 → R x f1 s1) : Runs P tab c f s R := by
  obtain ⟨n, x, f1, s1, e, q⟩ := h
  exact ⟨n, x, f1, s1, e, k _ _ _ q⟩

theorem CallA.mono {g : FuncId} {args : List Value} {s : St} {Q R : Value → St → Prop} (h : CallA P tab g args s Q) (k : ∀ v s1, Q v s1 → R v s1) : CallA P tab g args s R := by
  obtain ⟨n, v, s1, e, q⟩ := h
  exact ⟨n, v, s1, e, k _ _ q⟩

theorem OneA.mono {ops : List Oper} {o : Oper} {f : AF} {s : St} {Q R : Value → St → Prop} (h : OneA P tab ops o f s Q) (k : ∀ v s1, Q v s1 → R v s1) : OneA P tab ops o f s R := by
  obtain ⟨n, v, s1, e, q⟩ := h
  exact ⟨n, v, s1, e, k _ _ q⟩

theorem runs_skip {f : AF} {s : St} {Q : X → AF → St → Prop} (h : Q .normal f s) : Runs P tab .skip f s Q := ⟨1, _, _, _, rfl, h⟩
theorem runs_label {l : _} {f : AF} {s : St} {Q : X → AF → St → Prop} (h : Q .normal f s) : Runs P tab (.label l) f s Q := ⟨1, _, _, _, rfl, h⟩
theorem runs_exit {id : Nat} {f : AF} {s : St} {Q : X → AF → St → Prop} (h : Q (.exit id) f s) : Runs P tab (.exit id) f s Q := ⟨1, _, _, _, rfl, h⟩
theorem runs_ret {f : AF} {s : St} {Q : X → AF → St → Prop} (h : Q .ret f s) : Runs P tab .ret f s Q := ⟨1, _, _, _, rfl, h⟩

/-- What comes behind a part of a sequence. -/
def Then (P : Program) (tab : Tab) (b : Code) (Q : X → AF → St → Prop) : X → AF → St → Prop
  | .normal, f, s => Runs P tab b f s Q
  | .exit i, f, s => Q (.exit i) f s
  | .ret, f, s => Q .ret f s

theorem runs_seq {a b : Code} {f : AF} {s : St} {Q : X → AF → St → Prop} (h : Runs P tab a f s (Then P tab b Q)) : Runs P tab (.seq a b) f s Q := by
  obtain ⟨n, x, f1, s1, e, q⟩ := h
  cases x with
  | normal =>
    obtain ⟨k, y, f2, s2, e2, q2⟩ := q
    refine ⟨max n k + 1, y, f2, s2, ?_, q2⟩
    show stepCode P tab (exec P tab (max n k)) _ _ _ = _
    simp only [stepCode]
    rw [exec_le (Nat.le_max_left n k) _ _ _ _ e]
    exact exec_le (Nat.le_max_right n k) _ _ _ _ e2
  | exit i => exact ⟨n + 1, _, _, _, by show stepCode P tab (exec P tab n) _ _ _ = _; simp only [stepCode]; rw [e], q⟩
  | ret => exact ⟨n + 1, _, _, _, by show stepCode P tab (exec P tab n) _ _ _ = _; simp only [stepCode]; rw [e], q⟩

theorem runs_loop {b : Code} {f : AF} {s : St} {Q : X → AF → St → Prop} (h : Runs P tab b f s (Then P tab (.loop b) Q)) : Runs P tab (.loop b) f s Q := by
  obtain ⟨n, x, f1, s1, e, q⟩ := h
  cases x with
  | normal =>
    obtain ⟨k, y, f2, s2, e2, q2⟩ := q
    refine ⟨max n k + 1, y, f2, s2, ?_, q2⟩
    show stepCode P tab (exec P tab (max n k)) _ _ _ = _
    simp only [stepCode]
    rw [exec_le (Nat.le_max_left n k) _ _ _ _ e]
    exact exec_le (Nat.le_max_right n k) _ _ _ _ e2
  | exit i => exact ⟨n + 1, _, _, _, by show stepCode P tab (exec P tab n) _ _ _ = _; simp only [stepCode]; rw [e], q⟩
  | ret => exact ⟨n + 1, _, _, _, by show stepCode P tab (exec P tab n) _ _ _ = _; simp only [stepCode]; rw [e], q⟩

theorem runs_scope {b : Code} {f : AF} {s : St} {Q : X → AF → St → Prop} (h : Runs P tab b f s Q) : Runs P tab (.scope b) f s Q := by
  obtain ⟨n, x, f1, s1, e, q⟩ := h
  exact ⟨n + 1, x, f1, s1, e, q⟩

/-- What comes behind a block. -/
def Out (id : Nat) (Q : X → AF → St → Prop) : X → AF → St → Prop
  | .exit i, f, s => if i = id then Q .normal f s else Q (.exit i) f s
  | .normal, f, s => Q .normal f s
  | .ret, f, s => Q .ret f s

theorem runs_block {id : Nat} {b : Code} {f : AF} {s : St} {Q : X → AF → St → Prop} (h : Runs P tab b f s (Out id Q)) : Runs P tab (.block id b) f s Q := by
  obtain ⟨n, x, f1, s1, e, q⟩ := h
  cases x with
  | exit i =>
    unfold Out at q
    dsimp only at q
    by_cases hi : i = id
    · rw [if_pos hi] at q
      subst hi
      exact ⟨n + 1, _, _, _, by show stepCode P tab (exec P tab n) _ _ _ = _; simp only [stepCode]; rw [e]; simp, q⟩
    · rw [if_neg hi] at q
      refine ⟨n + 1, _, _, _, ?_, q⟩
      show stepCode P tab (exec P tab n) _ _ _ = _
      simp only [stepCode]
      rw [e]
      dsimp only
      have : Nat.beq i id = false := by
        cases hb : Nat.beq i id
        · rfl
        · exact absurd (Nat.eq_of_beq_eq_true hb) hi
      rw [this]
  | normal => exact ⟨n + 1, _, _, _, by show stepCode P tab (exec P tab n) _ _ _ = _; simp only [stepCode]; rw [e], q⟩
  | ret => exact ⟨n + 1, _, _, _, by show stepCode P tab (exec P tab n) _ _ _ = _; simp only [stepCode]; rw [e], q⟩

theorem runs_cond_true {c : Operand} {a b : Code} {f : AF} {s : St} {Q : X → AF → St → Prop} (hc : f.eval c = some (.bool true)) (h : Runs P tab a f s Q) : Runs P tab (.cond c a b) f s Q := by
  obtain ⟨n, x, f1, s1, e, q⟩ := h
  exact ⟨n + 1, x, f1, s1, by show stepCode P tab (exec P tab n) _ _ _ = _; simp only [stepCode]; rw [hc]; exact e, q⟩

theorem runs_cond_false {c : Operand} {a b : Code} {f : AF} {s : St} {Q : X → AF → St → Prop} (hc : f.eval c = some (.bool false)) (h : Runs P tab b f s Q) : Runs P tab (.cond c a b) f s Q := by
  obtain ⟨n, x, f1, s1, e, q⟩ := h
  exact ⟨n + 1, x, f1, s1, by show stepCode P tab (exec P tab n) _ _ _ = _; simp only [stepCode]; rw [hc]; exact e, q⟩

theorem runs_cond {c : Operand} {a b : Code} {f : AF} {s : St} {Q : X → AF → St → Prop} (t : Bool) (hc : f.eval c = some (.bool t)) (h1 : t = true → Runs P tab a f s Q) (h2 : t = false → Runs P tab b f s Q) : Runs P tab (.cond c a b) f s Q := by
  cases t
  · exact runs_cond_false hc (h2 rfl)
  · exact runs_cond_true hc (h1 rfl)

theorem runs_ops {id : _} {ops : Array Oper} {f : AF} {s : St} {Q : X → AF → St → Prop} (h : OpsA P tab ops.toList ops.toList f s fun f1 s1 => Q .normal f1 s1) : Runs P tab (.region id ops false) f s Q := by
  obtain ⟨n, f1, s1, e, q⟩ := h
  exact ⟨n + 1, _, f1, s1, by show stepCode P tab (exec P tab n) _ _ _ = _; simp only [stepCode]; rw [e], q⟩

theorem runs_draw {id : _} {ops : Array Oper} {f : AF} {h : T Row} {n : Nat} {rl wl : List Nat} {Q : X → AF → St → Prop} {prs : List (List Nat)} (hp : statOf ops = some prs)
    (q : DrawA P tab ops.toList rl wl ops.toList 0 prs [] f h n fun f1 s1 => Q .normal f1 s1) : Runs P tab (.region id ops true) f ⟨h, n, rl, wl⟩ Q := by
  obtain ⟨k, f1, s1, e, q⟩ := q
  exact ⟨k + 1, _, f1, s1, by show stepCode P tab (exec P tab k) _ _ _ = _; simp only [stepCode]; rw [hp]; dsimp only; rw [e], q⟩

theorem ops_nil {ops : List Oper} {f : AF} {s : St} {Q : AF → St → Prop} (h : Q f s) : OpsA P tab ops [] f s Q := ⟨0, f, s, rfl, h⟩

theorem ops_cons {ops : List Oper} {o : Oper} {l : List Oper} {f : AF} {s : St} {Q : AF → St → Prop} (h : OneA P tab ops o f s fun v s1 => ∃ f1, f.put o.dst v = some f1 ∧ OpsA P tab ops l f1 s1 Q) : OpsA P tab ops (o :: l) f s Q := by
  obtain ⟨n, v, s1, e, f1, p, k, f2, s2, e2, q⟩ := h
  refine ⟨max n k, f2, s2, ?_, q⟩
  unfold execOps
  rw [runOne_le (exec_le (Nat.le_max_left n k)) e]
  dsimp only
  rw [p]
  exact execOps_le (exec_le (Nat.le_max_right n k)) e2

theorem draw_nil {ops : List Oper} {rl wl : List Nat} {i : Nat} {prs : List (List Nat)} {did : List Did} {f : AF} {h : T Row} {n : Nat} {Q : AF → St → Prop} (q : Q f ⟨h, n, logR did rl, logW did wl⟩) :
    DrawA P tab ops rl wl [] i prs did f h n Q := ⟨0, _, _, by cases prs <;> rfl, q⟩

theorem draw_cons {ops : List Oper} {rl wl : List Nat} {o : Oper} {l : List Oper} {i : Nat} {pr : List Nat} {prs : List (List Nat)} {did : List Did} {f : AF} {h : T Row} {n : Nat} {Q : AF → St → Prop}
    (q : OneA P tab ops o f ⟨h, n, [], []⟩ fun v s1 => mayAll ⟨i, pr, s1.rl, s1.wl⟩ did = true ∧ ∃ f1, f.put o.dst v = some f1 ∧ DrawA P tab ops rl wl l (i + 1) prs (⟨i, pr, s1.rl, s1.wl⟩ :: did) f1 s1.h s1.n Q) :
    DrawA P tab ops rl wl (o :: l) i (pr :: prs) did f h n Q := by
  obtain ⟨n0, v, ⟨h1, n1, rl1, wl1⟩, e, m, f1, p, k, f2, s2, e2, q⟩ := q
  refine ⟨max n0 k, f2, s2, ?_, q⟩
  unfold execDraw
  rw [runOne_le (exec_le (Nat.le_max_left n0 k)) e]
  dsimp only at m p e2 ⊢
  rw [m]
  dsimp only
  rw [p]
  exact execDraw_le (exec_le (Nat.le_max_right n0 k)) e2

theorem one_off {ops : List Oper} {o : Oper} {f : AF} {s : St} {Q : Value → St → Prop} (hw : wantedA ops o f = false) (h : Q undef s) : OneA P tab ops o f s Q :=
  ⟨0, _, _, by unfold runOne; rw [hw], h⟩

theorem one_op {ops : List Oper} {o : Oper} {f : AF} {s : St} {Q : Value → St → Prop} (hw : wantedA ops o f = true) (ho : ∀ c, o.op = .call c → ∃ b, c.callee = .builtin b) {v : Value} {s1 : St}
    (e : (aOp P f o.op).run s = some (v, s1)) (h : Q v s1) : OneA P tab ops o f s Q := by
  refine ⟨0, v, s1, ?_, h⟩
  unfold runOne
  rw [hw]
  dsimp only
  unfold runOper
  split
  · rename_i c hc
    obtain ⟨b, hb⟩ := ho c hc
    rw [hb]
    exact e
  · exact e

theorem one_call {ops : List Oper} {o : Oper} {c : Call} {f : AF} {s : St} {Q : Value → St → Prop} (hw : wantedA ops o f = true) (ho : o.op = .call c) (hb : ∀ b, c.callee ≠ .builtin b) {g : FuncId} {args : List Value}
    (ht : aTarget P f c = some (g, args)) (h : CallA P tab g args s Q) : OneA P tab ops o f s Q := by
  obtain ⟨n, v, s1, e, q⟩ := h
  refine ⟨n, v, s1, ?_, q⟩
  unfold runOne
  rw [hw]
  dsimp only
  unfold runOper
  rw [ho]
  dsimp only
  split
  · rename_i b hc; exact absurd hc (hb b)
  · rw [ht]; exact e

/-- A call's results, behind its body. -/
def Res (P : Program) (l : List ResultVar) (Q : Value → St → Prop) : X → AF → St → Prop
  | .exit _, _, _ => False
  | _, f, s => ∃ vs s2, resultsA P f l s = some (vs, s2) ∧ Q (one vs) s2

theorem call_of {g : FuncId} {fn : Func} {c : Code} {args : List Value} {s : St} {Q : Value → St → Prop} (hk : tab.kn g args = none) (hg : tab.t.get g = some fn) (hb : fn.body = some c)
    (h : Runs P tab c (enterA fn args) s (Res P fn.results.toList Q)) : CallA P tab g args s Q := by
  obtain ⟨n, x, f1, s1, e, q⟩ := h
  cases x with
  | exit i => exact q.elim
  | normal =>
    obtain ⟨vs, s2, r, q⟩ := q
    refine ⟨n, one vs, s2, ?_, q⟩
    unfold callF
    rw [hk]; dsimp only; unfold callF0
    rw [hg]; dsimp only; rw [hb]; dsimp only; rw [e]; dsimp only; rw [r]
  | ret =>
    obtain ⟨vs, s2, r, q⟩ := q
    refine ⟨n, one vs, s2, ?_, q⟩
    unfold callF
    rw [hk]; dsimp only; unfold callF0
    rw [hg]; dsimp only; rw [hb]; dsimp only; rw [e]; dsimp only; rw [r]

end
end Go.Ax
