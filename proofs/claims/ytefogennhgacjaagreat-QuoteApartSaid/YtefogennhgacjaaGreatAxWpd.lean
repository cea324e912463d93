/- AX: logs change nothing; a region that draws its order, run as if it didn't. -/
import Derived.Test.YtefogennhgacjaaGreatAxWpl
namespace Go.Ax
set_option linter.unusedSimpArgs false
set_option linter.unusedVariables false
open Go

def LogF {β : Type} (run : St → Option (β × St)) : Prop := ∀ h n rl wl b s1, run ⟨h, n, rl, wl⟩ = some (b, s1) →
  ∃ dr dw, s1.rl = dr ++ rl ∧ s1.wl = dw ++ wl ∧ ∀ rl' wl', run ⟨h, n, rl', wl'⟩ = some (b, ⟨s1.h, s1.n, dr ++ rl', dw ++ wl'⟩)

theorem LogF.ret {β : Type} (b : β) : LogF (fun s => some (b, s)) := by
  intro h n rl wl b' s1 e
  cases e
  exact ⟨[], [], rfl, rfl, fun _ _ => rfl⟩
theorem LogF.none {β : Type} : LogF (fun _ => (none : Option (β × St))) := by
  intro h n rl wl b s1 e; cases e
theorem LogF.bind {β γ : Type} {run1 : St → Option (β × St)} {run2 : β → St → Option (γ × St)} (h1 : LogF run1) (h2 : ∀ b, LogF (run2 b)) : LogF (bindS run1 run2) := by
  intro h n rl wl c s2 e
  unfold bindS at e
  cases hr : run1 ⟨h, n, rl, wl⟩ with
  | none => rw [hr] at e; cases e
  | some p =>
    obtain ⟨b, s1⟩ := p
    rw [hr] at e
    dsimp only at e
    obtain ⟨dr, dw, e1, e2, e3⟩ := h1 h n rl wl b s1 hr
    obtain ⟨h', n', rl', wl'⟩ := s1
    dsimp only at e1 e2 e3
    obtain ⟨dr2, dw2, g1, g2, g3⟩ := h2 b h' n' rl' wl' c s2 e
    refine ⟨dr2 ++ dr, dw2 ++ dw, by rw [g1, e1]; simp, by rw [g2, e2]; simp, fun r w => ?_⟩
    unfold bindS
    rw [e3]
    dsimp only
    rw [g3]
    simp

theorem LogF.congr {β : Type} {run run' : St → Option (β × St)} (e : ∀ s, run s = run' s) (h : LogF run') : LogF run := by
  have : run = run' := funext e
  rw [this]; exact h

theorem A.logf {α : Type} : ∀ (x : A α), LogF x.run
  | .ret a => LogF.ret a
  | .fail => LogF.none
  | .rd i k => by
    intro h n rl wl b s1 e
    simp only [A.run] at e ⊢
    cases hg : h.get i with
    | none => rw [hg] at e; cases e
    | some r =>
      rw [hg] at e
      obtain ⟨dr, dw, e1, e2, e3⟩ := A.logf (k r) _ _ _ _ _ _ e
      exact ⟨dr ++ [i], dw, by rw [e1]; simp, e2, fun r w => by dsimp only; rw [e3]; simp⟩
  | .wr i r k => by
    intro h n rl wl b s1 e
    simp only [A.run] at e ⊢
    cases hg : h.get i with
    | none => rw [hg] at e; cases e
    | some r =>
      rw [hg] at e
      obtain ⟨dr, dw, e1, e2, e3⟩ := A.logf k _ _ _ _ _ _ e
      exact ⟨dr ++ [i], dw ++ [i], by rw [e1]; simp, by rw [e2]; simp, fun r w => by dsimp only; rw [e3]; simp⟩
  | .kl i k => by
    intro h n rl wl b s1 e
    simp only [A.run] at e ⊢
    cases hg : h.get i with
    | none => rw [hg] at e; cases e
    | some r =>
      rw [hg] at e
      obtain ⟨dr, dw, e1, e2, e3⟩ := A.logf k _ _ _ _ _ _ e
      exact ⟨dr ++ [i], dw ++ [i], by rw [e1]; simp, by rw [e2]; simp, fun r w => by dsimp only; rw [e3]; simp⟩
  | .nw r k => by
    intro h n rl wl b s1 e
    simp only [A.run] at e ⊢
    obtain ⟨dr, dw, e1, e2, e3⟩ := A.logf (k n) _ _ _ _ _ _ e
    exact ⟨dr, dw ++ [n], e1, by rw [e2]; simp, fun r w => by rw [e3]; simp⟩

def LogE (ex : Ex) : Prop := ∀ c f, LogF (fun s => pair (ex c f s))

section
variable {P : Program} {tab : Tab}

theorem resultsA_logf {f : AF} : ∀ (l : List ResultVar), LogF (resultsA P f l)
  | [] => LogF.congr (fun s => by simp [resultsA]) (LogF.ret [])
  | .tmp t :: l => by
    refine LogF.congr (run' := bindS (resultsA P f l) fun vs s1 => some (f.get t :: vs, s1)) (fun s => ?_) (LogF.bind (resultsA_logf l) (fun vs => LogF.ret _))
    simp only [resultsA, bindS]
    cases resultsA P f l s <;> rfl
  | .cell x t :: l => by
    refine LogF.congr (run' := bindS (aLoad P t (f.get x)).run fun v => bindS (resultsA P f l) fun vs s2 => some (v :: vs, s2)) (fun s => ?_)
      (LogF.bind (A.logf _) fun v => LogF.bind (resultsA_logf l) (fun vs => LogF.ret _))
    simp only [resultsA, bindS]
    cases (aLoad P t (f.get x)).run s with
    | none => rfl
    | some r =>
      dsimp only
      cases resultsA P f l r.2 <;> rfl

theorem callF0_logf {ih : Ex} (hih : LogE ih) (g : FuncId) (args : List Value) : LogF (callF0 P tab ih g args) := by
  cases hg : tab.t.get g with
  | none => exact LogF.congr (fun s => by simp [callF0, hg]) LogF.none
  | some fn =>
    cases hb : fn.body with
    | none => exact LogF.congr (fun s => by simp [callF0, hg, hb]) LogF.none
    | some c =>
      refine LogF.congr (run' := bindS (fun s => pair (ih c (enterA fn args) s)) fun xf => match xf with
          | (.normal, f1) => bindS (resultsA P f1 fn.results.toList) fun vs s2 => some (one vs, s2)
          | (.ret, f1) => bindS (resultsA P f1 fn.results.toList) fun vs s2 => some (one vs, s2)
          | (.exit _, _) => fun _ => none) (fun s => ?_) (LogF.bind (hih c _) fun xf => ?_)
      · simp only [callF0, hg, hb, pair, bindS]
        cases ih c (enterA fn args) s with
        | none => rfl
        | some r =>
          obtain ⟨x, f1, s1⟩ := r
          cases x <;> dsimp only
          · unfold bindS; cases resultsA P f1 fn.results.toList s1 <;> rfl
          · unfold bindS; cases resultsA P f1 fn.results.toList s1 <;> rfl
      · obtain ⟨x, f1⟩ := xf
        cases x with
        | normal => exact LogF.bind (resultsA_logf _) (fun vs => LogF.ret _)
        | ret => exact LogF.bind (resultsA_logf _) (fun vs => LogF.ret _)
        | exit id => exact LogF.none

theorem callF_logf {ih : Ex} (hih : LogE ih) (g : FuncId) (args : List Value) : LogF (callF P tab ih g args) := by
  cases hk : tab.kn g args with
  | some v => exact LogF.congr (fun s => by simp [callF, hk]) (LogF.ret v)
  | none => exact LogF.congr (fun s => by simp [callF, hk]) (callF0_logf (P := P) (tab := tab) hih g args)

theorem runOper_logf {ih : Ex} (hih : LogE ih) (o : Oper) (f : AF) : LogF (runOper P tab ih o f) := by
  have plain : ∀ op : Op, LogF (fun s => (aOp P f op).run s) := fun op => A.logf _
  cases hop : o.op
  case call c =>
    cases hc : c.callee with
    | builtin b => exact LogF.congr (fun s => by simp [runOper, hop, hc]) (plain (.call c))
    | value x =>
      cases ht : aTarget P f c with
      | none => exact LogF.congr (fun s => by simp [runOper, hop, hc, ht]) LogF.none
      | some ga => exact LogF.congr (fun s => by simp [runOper, hop, hc, ht]) (callF_logf (P := P) (tab := tab) hih ga.1 ga.2)
    | invoke r n =>
      cases ht : aTarget P f c with
      | none => exact LogF.congr (fun s => by simp [runOper, hop, hc, ht]) LogF.none
      | some ga => exact LogF.congr (fun s => by simp [runOper, hop, hc, ht]) (callF_logf (P := P) (tab := tab) hih ga.1 ga.2)
  all_goals exact LogF.congr (fun s => by simp [runOper, hop]) (plain o.op)

theorem runOne_logf {ih : Ex} (hih : LogE ih) (ops : List Oper) (o : Oper) (f : AF) : LogF (runOne P tab ih ops o f) := by
  cases hw : wantedA ops o f with
  | true => exact LogF.congr (fun s => by simp [runOne, hw]) (runOper_logf (P := P) (tab := tab) hih o f)
  | false => exact LogF.congr (fun s => by simp [runOne, hw]) (LogF.ret undef)

theorem execOps_logf {ih : Ex} (hih : LogE ih) (ops : List Oper) : ∀ (l : List Oper) (f : AF), LogF (execOps P tab ih ops l f)
  | [], f => LogF.congr (fun s => by simp [execOps]) (LogF.ret f)
  | o :: l, f => by
    refine LogF.congr (run' := bindS (runOne P tab ih ops o f) fun v s1 => match f.put o.dst v with | none => none | some f1 => execOps P tab ih ops l f1 s1) (fun s => ?_) (LogF.bind (runOne_logf hih ops o f) fun v => ?_)
    · simp only [execOps, bindS]
      cases runOne P tab ih ops o f s with
      | none => rfl
      | some r => rfl
    · cases hp : f.put o.dst v with
      | none => exact LogF.none
      | some f1 => exact execOps_logf hih ops l f1

theorem draw_logf {ih : Ex} (ops : List Oper) (rl wl rl' wl' : List Nat) : ∀ (l : List Oper) (i : Nat) (prs : List (List Nat)) (did : List Did) (f f1 : AF) (h : T Row) (n : Nat) (s1 : St),
    execDraw P tab ih ops rl wl l i prs did f h n = some (f1, s1) →
      ∃ d, s1.rl = logR d rl ∧ s1.wl = logW d wl ∧ execDraw P tab ih ops rl' wl' l i prs did f h n = some (f1, ⟨s1.h, s1.n, logR d rl', logW d wl'⟩)
  | [], i, prs, did, f, f1, h, n, s1, e => by
    have e : some (f, (⟨h, n, logR did rl, logW did wl⟩ : St)) = some (f1, s1) := by cases prs <;> exact e
    cases e
    exact ⟨did, rfl, rfl, by cases prs <;> rfl⟩
  | _ :: _, i, [], did, f, f1, h, n, s1, e => by cases e
  | o :: l, i, pr :: prs, did, f, f1, h, n, s1, e => by
    unfold execDraw at e ⊢
    cases hr : runOne P tab ih ops o f ⟨h, n, [], []⟩ with
    | none => rw [hr] at e; cases e
    | some q =>
      obtain ⟨v, h1, n1, rl1, wl1⟩ := q
      rw [hr] at e
      dsimp only at e ⊢
      cases hm : mayAll ⟨i, pr, rl1, wl1⟩ did with
      | false => rw [hm] at e; cases e
      | true =>
        rw [hm] at e
        dsimp only at e ⊢
        cases hp : f.put o.dst v with
        | none => rw [hp] at e; cases e
        | some f2 =>
          rw [hp] at e
          exact draw_logf ops rl wl rl' wl' l _ _ _ _ _ _ _ _ e

theorem stepCode_logf {ih : Ex} (hih : LogE ih) : LogE (stepCode P tab ih) := by
  intro c f
  cases c
  case skip => exact LogF.congr (fun s => by simp [stepCode, pair]) (LogF.ret (X.normal, f))
  case label l => exact LogF.congr (fun s => by simp [stepCode, pair]) (LogF.ret (X.normal, f))
  case exit id => exact LogF.congr (fun s => by simp [stepCode, pair]) (LogF.ret (X.exit id, f))
  case ret => exact LogF.congr (fun s => by simp [stepCode, pair]) (LogF.ret (X.ret, f))
  case goto => exact LogF.congr (fun s => by simp [stepCode, pair]) LogF.none
  case refuse => exact LogF.congr (fun s => by simp [stepCode, pair]) LogF.none
  case rangeFunc => exact LogF.congr (fun s => by simp [stepCode, pair]) LogF.none
  case scope b => exact LogF.congr (fun s => by simp [stepCode]) (hih b f)
  case seq a b =>
    refine LogF.congr (run' := bindS (fun s => pair (ih a f s)) fun xf s1 => match xf with | (.normal, f1) => pair (ih b f1 s1) | (.exit id, f1) => some ((.exit id, f1), s1) | (.ret, f1) => some ((.ret, f1), s1)) (fun s => ?_) (LogF.bind (hih a f) fun xf => ?_)
    · simp only [stepCode, bindS]
      cases ih a f s with
      | none => rfl
      | some r => obtain ⟨x, f1, s1⟩ := r; cases x <;> rfl
    · obtain ⟨x, f1⟩ := xf
      cases x with
      | normal => exact hih b f1
      | exit id => exact LogF.ret _
      | ret => exact LogF.ret _
  case loop b =>
    refine LogF.congr (run' := bindS (fun s => pair (ih b f s)) fun xf s1 => match xf with | (.normal, f1) => pair (ih (.loop b) f1 s1) | (.exit id, f1) => some ((.exit id, f1), s1) | (.ret, f1) => some ((.ret, f1), s1)) (fun s => ?_) (LogF.bind (hih b f) fun xf => ?_)
    · simp only [stepCode, bindS]
      cases ih b f s with
      | none => rfl
      | some r => obtain ⟨x, f1, s1⟩ := r; cases x <;> rfl
    · obtain ⟨x, f1⟩ := xf
      cases x with
      | normal => exact hih (.loop b) f1
      | exit id => exact LogF.ret _
      | ret => exact LogF.ret _
  case block id b =>
    refine LogF.congr (run' := bindS (fun s => pair (ih b f s)) fun xf s1 => match xf with | (.normal, f1) => some ((.normal, f1), s1) | (.exit id', f1) => some ((match Nat.beq id' id with | true => .normal | false => .exit id', f1), s1) | (.ret, f1) => some ((.ret, f1), s1)) (fun s => ?_) (LogF.bind (hih b f) fun xf => ?_)
    · simp only [stepCode, bindS]
      cases ih b f s with
      | none => rfl
      | some r =>
        obtain ⟨x, f1, s1⟩ := r
        cases x with
        | normal => rfl
        | ret => rfl
        | exit id' => dsimp only [pair]; cases Nat.beq id' id <;> rfl
    · obtain ⟨x, f1⟩ := xf
      cases x with
      | normal => exact LogF.ret _
      | exit id' => exact LogF.ret _
      | ret => exact LogF.ret _
  case cond c t e =>
    cases hc : f.eval c with
    | none => exact LogF.congr (fun s => by simp [stepCode, hc, pair]) LogF.none
    | some v =>
      cases v
      case bool b =>
        cases b with
        | true => exact LogF.congr (fun s => by simp [stepCode, hc]) (hih t f)
        | false => exact LogF.congr (fun s => by simp [stepCode, hc]) (hih e f)
      all_goals exact LogF.congr (fun s => by simp [stepCode, hc, pair]) LogF.none
  case region id ops d =>
    cases d with
    | false =>
      refine LogF.congr (run' := bindS (execOps P tab ih ops.toList ops.toList f) fun f1 s1 => some ((X.normal, f1), s1)) (fun s => ?_) (LogF.bind (execOps_logf hih _ _ f) (fun f1 => LogF.ret _))
      simp only [stepCode, bindS]
      cases execOps P tab ih ops.toList ops.toList f s with
      | none => rfl
      | some r => rfl
    | true =>
      cases hst : statOf ops with
      | none => exact LogF.congr (fun s => by obtain ⟨hh, n, rl, wl⟩ := s; simp [stepCode, hst, pair]) LogF.none
      | some prs =>
        intro h n rl wl b s1 e
        simp only [stepCode, hst] at e ⊢
        cases hd : execDraw P tab ih ops.toList rl wl ops.toList 0 prs [] f h n with
        | none => rw [hd] at e; cases e
        | some q =>
          obtain ⟨f1, s2⟩ := q
          rw [hd] at e
          simp only [pair, Option.some.injEq, Prod.mk.injEq] at e
          obtain ⟨rfl, rfl⟩ := e
          obtain ⟨d, e1, e2, -⟩ := draw_logf ops.toList rl wl [] [] _ _ _ _ _ _ _ _ _ hd
          refine ⟨logR d [], logW d [], by rw [e1, logR_app], by rw [e2, logW_app], fun r w => ?_⟩
          obtain ⟨d2, g1, g2, g3⟩ := draw_logf ops.toList rl wl r w _ _ _ _ _ _ _ _ _ hd
          rw [g3]
          have h1 : logR d [] = logR d2 [] := by
            have := e1.symm.trans g1
            rw [logR_app, logR_app d2] at this
            exact List.append_cancel_right this
          have h2 : logW d [] = logW d2 [] := by
            have := e2.symm.trans g2
            rw [logW_app, logW_app d2] at this
            exact List.append_cancel_right this
          simp only [pair]
          rw [h1, h2, ← logR_app, ← logW_app]

theorem exec_logf (n : Nat) : LogE (exec P tab n) := by
  induction n with
  | zero => intro c f; exact LogF.none
  | succ n ih => exact stepCode_logf ih

/-! ### a region that draws its order -/

/-- Does an operation leave memory alone? -/
def muteOp : Op → Bool
  | .move _ => true
  | .assign _ => true
  | .pick _ _ _ => true
  | .nilCheck _ => true
  | .binOp _ _ _ _ _ => true
  | .unOp _ _ _ => true
  | .fieldAddr _ _ _ => true
  | .indexAddr _ _ _ => true
  | .extract _ _ => true
  | .build _ _ => true
  | .makeFunc _ _ _ => true
  | .makeInterface _ _ => true
  | .slice _ _ _ none _ => true
  | _ => false

/-- Does an operation read at most? -/
def readOp : Op → Bool
  | .load _ _ => true
  | .slice _ _ _ _ _ => true
  | .call ⟨.builtin .len, _, _⟩ => true
  | op => muteOp op

/-- May two operations pass each other, whatever they touch? -/
def pass2 (d e : Op) : Bool := muteOp d || muteOp e || (readOp d && readOp e)

def okPass (e : Op) (pr : List Nat) : List (Nat × Op) → Bool
  | [] => true
  | d :: l => (hasN pr d.1 || pass2 d.2 e) && okPass e pr l

def okDraw : List Oper → Nat → List (List Nat) → List (Nat × Op) → Bool
  | [], _, _, _ => true
  | _ :: _, _, [], _ => false
  | o :: l, i, pr :: prs, did => okPass o.op pr did && okDraw l (i + 1) prs ((i, o.op) :: did)

/-- A run without effects on memory, and one that reads alone. -/
def Mute (a : A Value) : Prop := ∀ s v s1, a.run s = some (v, s1) → s1 = s
def Reads (a : A Value) : Prop := ∀ s v s1, a.run s = some (v, s1) → s1.wl = s.wl

theorem Mute.reads {a : A Value} (h : Mute a) : Reads a := fun s v s1 e => by rw [h s v s1 e]
theorem mute_ret (v : Value) : Mute (.ret v) := fun s v s1 e => by cases e; rfl
theorem mute_fail : Mute .fail := fun s v s1 e => by cases e
theorem mute_ofOpt (o : Option Value) : Mute (A.ofOpt o) := by cases o; exact mute_fail; exact mute_ret _
theorem reads_ld (i o n : Nat) (f : List Value → A Value) (h : ∀ l, Reads (f l)) : Reads ((ldCells i o n).bind f) := by
  intro s v s1 e
  unfold ldCells at e
  simp only [A.bind, A.run] at e
  split at e
  · rename_i r hr
    cases r <;> simp only [A.bind, A.run] at e <;> try (cases e; done)
    all_goals
      rename_i c
      cases hs : slab c o n with
      | none => rw [hs] at e; simp [A.ofOpt, A.bind, A.run] at e
      | some l =>
        rw [hs] at e
        have := h l _ _ _ e
        exact this
  · cases e

theorem muteOp_ok (f : AF) (op : Op) (h : muteOp op = true) : Mute (aOp P f op) := by
  cases op <;> first | (cases h; done) | skip
  case move x => exact mute_ofOpt _
  case assign x => exact mute_ofOpt _
  case pick c a b => unfold aOp; dsimp only; split <;> first | exact mute_ofOpt _ | exact mute_fail
  case nilCheck x => unfold aOp; dsimp only; split <;> first | exact mute_ofOpt _ | exact mute_fail
  case binOp op t x y u => unfold aOp; dsimp only; split <;> first | exact mute_ofOpt _ | exact mute_fail
  case unOp op t x => unfold aOp; dsimp only; split <;> first | exact mute_fail | (split <;> first | exact mute_ofOpt _ | exact mute_fail)
  case fieldAddr t x n => unfold aOp; dsimp only; split <;> first | exact mute_ofOpt _ | exact mute_fail
  case indexAddr t x i => unfold aOp; dsimp only; split <;> first | exact mute_ofOpt _ | exact mute_fail
  case extract x n => unfold aOp; dsimp only; split <;> first | exact mute_ofOpt _ | exact mute_fail
  case build t ps => unfold aOp; dsimp only; split <;> first | exact mute_ofOpt _ | exact mute_fail
  case makeFunc g a b => cases g <;> unfold aOp <;> dsimp only <;> first | exact mute_fail | (split <;> first | exact mute_ret _ | exact mute_fail)
  case makeInterface t x => unfold aOp; dsimp only; split <;> first | exact mute_ret _ | exact mute_fail
  case slice t x lo hi mx =>
    cases hi with
    | some hi => cases h
    | none =>
      unfold aOp
      dsimp only [evalO]
      split
      · rename_i v l hh m hv hl hhi hm
        cases hhi
        split
        · exact mute_ofOpt _
        · split
          · split
            · split
              · exact mute_ret _
              · rename_i sz _ _ _ _ _
                have : ∀ (sz : Nat) (v : Value) (l : Option Value), aSliceFar sz v l none = .fail := by
                  intro sz v l
                  unfold aSliceFar
                  split
                  · contradiction
                  · rfl
                rw [this]
                exact mute_fail
              · exact mute_fail
            · exact mute_fail
          · exact mute_fail
      · exact mute_fail

theorem reads_load (t : TypeId) (a : Value) : Reads (aLoad P t a) := by
  unfold aLoad
  split
  · split
    · split
      · exact reads_ld _ _ _ _ fun l => (mute_ret _).reads
      · exact mute_fail.reads
    · refine reads_ld _ _ _ _ fun l => ?_
      split
      · exact (mute_ret _).reads
      · exact mute_fail.reads
    · exact mute_fail.reads
  · exact mute_fail.reads

theorem reads_rd (i : Nat) (k : Row → A Value) (h : ∀ r, Reads (k r)) : Reads (.rd i k) := by
  intro s v s1 e
  simp only [A.run] at e
  split at e
  · have := h _ _ _ _ e
    exact this
  · cases e

theorem readOp_ok (f : AF) (op : Op) (h : readOp op = true) : Reads (aOp P f op) := by
  by_cases hm : muteOp op = true
  · exact (muteOp_ok f op hm).reads
  cases op <;> first | exact absurd h hm | skip
  case load t a => unfold aOp; dsimp only; split <;> first | exact reads_load _ _ | exact mute_fail.reads
  case slice t x lo hi mx =>
    unfold aOp
    dsimp only
    split
    · split
      · exact (mute_ofOpt _).reads
      · split
        · split
          · split
            · exact (mute_ret _).reads
            · unfold aSliceFar
              split
              · split
                · exact mute_fail.reads
                · refine reads_rd _ _ fun r => ?_
                  split
                  · split
                    · exact mute_fail.reads
                    · split
                      · exact mute_fail.reads
                      · exact (mute_ret _).reads
                  · exact mute_fail.reads
              · exact mute_fail.reads
            · exact mute_fail.reads
          · exact mute_fail.reads
        · exact mute_fail.reads
    · exact mute_fail.reads
  case call c =>
    obtain ⟨callee, xs, tys⟩ := c
    cases callee with
    | value x => exact absurd h hm
    | invoke r m => exact absurd h hm
    | builtin b =>
      cases b <;> first | exact absurd h hm | skip
      unfold aOp
      dsimp only
      split
      · unfold aBuiltin
        repeat' split
        all_goals first | contradiction | exact mute_fail.reads | exact (mute_ret _).reads | (refine reads_rd _ _ fun r => ?_; split <;> first | exact mute_fail.reads | exact (mute_ret _).reads) | skip
      · exact mute_fail.reads

/-- A region that draws its order, run in its text's order. -/
theorem drawA_ops {ops : List Oper} {rl wl : List Nat} {Q : AF → St → Prop} : ∀ {l : List Oper} {i : Nat} {prs : List (List Nat)} {did : List Did} {ks : List (Nat × Op)} {f : AF} {h : T Row} {n : Nat},
    okDraw l i prs ks = true → did.map (·.i) = ks.map (·.1) → (∀ (k : Nat) (d : Did) (o : Nat × Op), did[k]? = some d → ks[k]? = some o → (muteOp o.2 = true → d.rd = [] ∧ d.eff = []) ∧ (readOp o.2 = true → d.eff = [])) →
    OpsA P tab ops l f ⟨h, n, logR did rl, logW did wl⟩ Q → DrawA P tab ops rl wl l i prs did f h n Q
  | [], i, prs, did, ks, f, h, n, _, _, _, q => draw_nil ((ops_nil_iff _ _ _ _).1 q)
  | o :: l, i, [], did, ks, f, h, n, hok, _, _, _ => by cases hok
  | o :: l, i, pr :: prs, did, ks, f, h, n, hok, hi, hl, q => by
    rw [ops_cons_iff] at q
    obtain ⟨k, v, s1, e, f1, hp, q⟩ := q
    simp only [okDraw, Bool.and_eq_true] at hok
    obtain ⟨dr, dw, e1, e2, e3⟩ := runOne_logf (P := P) (tab := tab) (exec_logf k) ops o f _ _ _ _ _ _ e
    have e4 := e3 [] []
    simp only [List.append_nil] at e4
    have hmr : (muteOp o.op = true → dr = [] ∧ dw = []) ∧ (readOp o.op = true → dw = []) := by
      have key : isCall o.op = false → wantedA ops o f = true → (aOp P f o.op).run ⟨h, n, [], []⟩ = some (v, ⟨s1.h, s1.n, dr, dw⟩) := by
        intro hc hw
        have := e4
        unfold runOne at this
        rw [hw] at this
        dsimp only at this
        unfold runOper at this
        split at this
        · rename_i c hop
          split at this
          · rw [hop] at this; rw [hop]; exact this
          · rw [hop] at hc
            obtain ⟨callee, xs, tys⟩ := c
            cases callee
            · cases hc
            · cases hc
            · rename_i hnb; exact absurd rfl (hnb _)
        · exact this
      have off : wantedA ops o f = false → dr = [] ∧ dw = [] := by
        intro hw
        have := e4
        unfold runOne at this
        rw [hw] at this
        simp only [Option.some.injEq, Prod.mk.injEq, St.mk.injEq] at this
        exact ⟨this.2.2.2.1.symm, this.2.2.2.2.symm⟩
      have nc : readOp o.op = true → isCall o.op = false := by
        intro hr
        cases ho : o.op <;> rw [ho] at hr <;> try rfl
        rename_i c
        obtain ⟨callee, xs, tys⟩ := c
        cases callee <;> first | rfl | (simp [readOp, muteOp] at hr)
      have mr : muteOp o.op = true → readOp o.op = true := by
        intro hm
        cases ho : o.op <;> rw [ho] at hm <;> first | rfl | (simp [muteOp] at hm)
      refine ⟨fun hm => ?_, fun hr => ?_⟩
      · cases hw : wantedA ops o f with
        | false => exact off hw
        | true =>
          have := muteOp_ok f o.op hm _ _ _ (key (nc (mr hm)) hw)
          simp only [St.mk.injEq] at this
          exact ⟨this.2.2.1, this.2.2.2⟩
      · cases hw : wantedA ops o f with
        | false => exact (off hw).2
        | true => exact readOp_ok f o.op hr _ _ _ (key (nc hr) hw)
    have hpass : mayAll ⟨i, pr, dr, dw⟩ did = true := by
      have hok1 := hok.1
      clear hok q e e3 e4 e1 e2
      induction did generalizing ks with
      | nil => rfl
      | cons d did ih =>
        cases ks with
        | nil => simp at hi
        | cons kk ks =>
          simp only [List.map_cons, List.cons.injEq] at hi
          simp only [okPass, Bool.and_eq_true, Bool.or_eq_true] at hok1
          have h0 := hl 0 d kk rfl rfl
          have hmp : mayPass ⟨i, pr, dr, dw⟩ d = true := by
            unfold mayPass
            dsimp only
            rw [hi.1]
            cases hh : hasN pr kk.1 with
            | true => rfl
            | false =>
              dsimp only
              have hp2 : pass2 kk.2 o.op = true := by
                rcases hok1.1 with x | x
                · rw [hh] at x; cases x
                · exact x
              simp only [pass2, Bool.or_eq_true, Bool.and_eq_true] at hp2
              have ar : ∀ l : List Nat, apartN l [] = true := by
                intro l
                induction l with
                | nil => rfl
                | cons x l ih => simp [apartN, hasN, ih]
              rcases hp2 with (x | x) | ⟨x, y⟩
              · obtain ⟨a1, a2⟩ := h0.1 x
                rw [a1, a2]
                simp [apartN, ar]
              · obtain ⟨a1, a2⟩ := hmr.1 x
                rw [a1, a2]
                simp [apartN, ar]
              · rw [h0.2 x, hmr.2 y]
                simp [apartN]
          unfold mayAll
          rw [hmp]
          dsimp only
          exact ih ks hi.2 (fun k d' o' h1 h2 => hl (k + 1) d' o' (by simpa using h1) (by simpa using h2)) hok1.2
    refine draw_cons ⟨k, v, _, e4, hpass, f1, hp, ?_⟩
    refine drawA_ops (ks := (i, o.op) :: ks) hok.2 (by simp [hi]) ?_ ?_
    · intro m d o' h1 h2
      cases m with
      | zero =>
        simp only [List.getElem?_cons_zero, Option.some.injEq] at h1 h2
        subst h1 h2
        exact hmr
      | succ m => exact hl m d o' (by simpa using h1) (by simpa using h2)
    · have : s1 = ⟨s1.h, s1.n, dr ++ logR did rl, dw ++ logW did wl⟩ := by
        rw [← e1, ← e2]
      rw [this] at q
      exact q

def okDrawR (ops : List Oper) : Bool := match statOf ⟨ops⟩ with
  | some prs => okDraw ops 0 prs []
  | none => false

theorem runs_draw_ops {id : Nat} {l : List Oper} {f : AF} {s : St} {Q : X → AF → St → Prop} (h : okDrawR l = true) (q : OpsA P tab l l f s fun f1 s1 => Q .normal f1 s1) : Runs P tab (.region id (List.toArray l) true) f s Q := by
  obtain ⟨hh, n, rl, wl⟩ := s
  unfold okDrawR at h
  cases hs : statOf ⟨l⟩ with
  | none => rw [hs] at h; cases h
  | some prs =>
    rw [hs] at h
    exact runs_draw hs (drawA_ops h rfl (fun k d o h1 _ => by cases k <;> cases h1) q)

/-- A region that draws its order, for the simplifier: what is to be shown of it by reckoning stands apart. -/
def DrwB (P : Program) (tab : Tab) (f : AF) (s : St) [b : KC] [q : KX] : Prop := Runs P tab b.c f s q.q
@[simp ↓] theorem runs_draw_iff (id : Nat) (l : List Oper) (f : AF) (s : St) (Q : X → AF → St → Prop) : Runs P tab (.region id (List.toArray l) true) f s Q ↔ @DrwB P tab f s ⟨.region id (List.toArray l) true⟩ ⟨Q⟩ := Iff.rfl
theorem drwB {id : Nat} {l : List Oper} {f : AF} {s : St} {Q : X → AF → St → Prop} (h : okDrawR l = true) (q : OpsA P tab l l f s fun f1 s1 => Q .normal f1 s1) : @DrwB P tab f s ⟨.region id (List.toArray l) true⟩ ⟨Q⟩ := runs_draw_ops h q

/-! ### the same, operation by operation -/
@[simp] theorem nw_rl (s : St) (r : Row) : (s.nw r).rl = s.rl := rfl
@[simp] theorem nw_wl (s : St) (r : Row) : (s.nw r).wl = s.n :: s.wl := rfl
@[simp] theorem rdl_rl (s : St) (i : Nat) : (s.rdl i).rl = i :: s.rl := rfl
@[simp] theorem rdl_wl (s : St) (i : Nat) : (s.rdl i).wl = s.wl := rfl
@[simp] theorem wrl_rl (s : St) (i : Nat) (r : Row) : (s.wrl i r).rl = i :: s.rl := rfl
@[simp] theorem wrl_wl (s : St) (i : Nat) (r : Row) : (s.wrl i r).wl = i :: s.wl := rfl

def MayB (e : Did) (did : List Did) [p : K0] : Prop := mayAll e did = true ∧ p.p
@[simp ↓] theorem mayB_nil (e : Did) (p : Prop) : @MayB e [] ⟨p⟩ ↔ p := by simp [MayB, mayAll]
theorem apartN_nil (m : List Nat) : apartN [] m = true := rfl
theorem apartN_right : ∀ l : List Nat, apartN l [] = true
  | [] => rfl
  | x :: l => by simp [apartN, hasN, apartN_right l]
theorem mayPass_mute (i : Nat) (pr : List Nat) (d : Did) : mayPass ⟨i, pr, [], []⟩ d = true := by
  unfold mayPass
  cases hasN pr d.i <;> simp [apartN_right, apartN_nil]
theorem mayPass_mute_d (e : Did) (i : Nat) (pr : List Nat) : mayPass e ⟨i, pr, [], []⟩ = true := by
  unfold mayPass
  cases hasN e.pr i <;> simp [apartN_right, apartN_nil]
theorem mayB_cons {e d : Did} {l : List Did} {p : Prop} (h : mayPass e d = true) : @MayB e (d :: l) ⟨p⟩ ↔ @MayB e l ⟨p⟩ := by
  unfold MayB
  rw [mayAll, h]
@[simp ↓] theorem mayB_mute (i : Nat) (pr : List Nat) (did : List Did) (p : Prop) : @MayB ⟨i, pr, [], []⟩ did ⟨p⟩ ↔ p := by
  induction did with
  | nil => exact mayB_nil _ _
  | cons d l ih => rw [mayB_cons (mayPass_mute i pr d), ih]
@[simp ↓] theorem mayB_cons_mute (e : Did) (i : Nat) (pr : List Nat) (l : List Did) (p : Prop) : @MayB e (⟨i, pr, [], []⟩ :: l) ⟨p⟩ ↔ @MayB e l ⟨p⟩ := mayB_cons (mayPass_mute_d e i pr)
@[simp ↓] theorem mayB_cons_has (i : Nat) (pr rd eff : List Nat) (j : Nat) (pr' rd' eff' : List Nat) (l : List Did) (p : Prop) (h : hasN pr j = true) : @MayB ⟨i, pr, rd, eff⟩ (⟨j, pr', rd', eff'⟩ :: l) ⟨p⟩ ↔ @MayB ⟨i, pr, rd, eff⟩ l ⟨p⟩ :=
  mayB_cons (by unfold mayPass; rw [h])
@[simp ↓] theorem mayB_cons_rr (i : Nat) (pr rd : List Nat) (j : Nat) (pr' rd' : List Nat) (l : List Did) (p : Prop) : @MayB ⟨i, pr, rd, []⟩ (⟨j, pr', rd', []⟩ :: l) ⟨p⟩ ↔ @MayB ⟨i, pr, rd, []⟩ l ⟨p⟩ :=
  mayB_cons (by unfold mayPass; cases hasN pr j <;> simp [apartN_right, apartN_nil])
@[simp] theorem hasN_cons (x : Nat) (l : List Nat) (n : Nat) : hasN (x :: l) n = (decide (x = n) || hasN l n) := by
  rw [hasN]
  by_cases h : x = n
  · subst h; simp
  · have : Nat.beq x n = false := by
      cases hb : Nat.beq x n
      · rfl
      · exact absurd (Nat.eq_of_beq_eq_true hb) h
    rw [this]; simp [h]
@[simp] theorem hasN_nil (n : Nat) : hasN [] n = false := rfl
theorem apartN_of : ∀ {l m : List Nat}, (∀ x, x ∈ l → x ∉ m) → apartN l m = true
  | [], m, h => rfl
  | x :: l, m, h => by
    unfold apartN
    have : hasN m x = false := by
      cases hb : hasN m x
      · rfl
      · exact absurd ((hasN_iff m x).1 hb) (h x (by simp))
    rw [this]
    exact apartN_of fun y hy => h y (by simp [hy])
theorem mayB_step {e d : Did} {l : List Did} {p : Prop} (h : (∀ x, x ∈ d.eff → x ∉ e.rd) ∧ (∀ x, x ∈ e.eff → x ∉ d.rd) ∧ (∀ x, x ∈ d.eff → x ∉ e.eff)) (k : @MayB e l ⟨p⟩) : @MayB e (d :: l) ⟨p⟩ := by
  refine (mayB_cons ?_).2 k
  unfold mayPass
  rw [apartN_of h.1, apartN_of h.2.1, apartN_of h.2.2]
  cases hasN e.pr d.i <;> rfl

theorem draw_nil_iff (ops : List Oper) (rl wl : List Nat) (i : Nat) (did : List Did) (f : AF) (h : T Row) (n : Nat) (Q : AF → St → Prop) : DrawA P tab ops rl wl [] i [] did f h n Q ↔ Q f ⟨h, n, logR did rl, logW did wl⟩ :=
  ⟨fun ⟨_, _, _, e, q⟩ => by cases e; exact q, draw_nil⟩
theorem draw_cons_iff (ops : List Oper) (rl wl : List Nat) (o : Oper) (l : List Oper) (i : Nat) (pr : List Nat) (prs : List (List Nat)) (did : List Did) (f : AF) (h : T Row) (n : Nat) (Q : AF → St → Prop) :
    DrawA P tab ops rl wl (o :: l) i (pr :: prs) did f h n Q ↔ OneA P tab ops o f ⟨h, n, [], []⟩ fun v s1 => @MayB ⟨i, pr, s1.rl, s1.wl⟩ did ⟨@PutB f o.dst v ⟨fun f1 => DrawA P tab ops rl wl l (i + 1) prs (⟨i, pr, s1.rl, s1.wl⟩ :: did) f1 s1.h s1.n Q⟩⟩ := by
  constructor
  · rintro ⟨k, f1, s1, e, q⟩
    unfold execDraw at e
    cases hr : runOne P tab (exec P tab k) ops o f ⟨h, n, [], []⟩ with
    | none => rw [hr] at e; cases e
    | some p =>
      obtain ⟨v, h1, n1, rl1, wl1⟩ := p
      rw [hr] at e
      dsimp only at e
      cases hm : mayAll ⟨i, pr, rl1, wl1⟩ did with
      | false => rw [hm] at e; cases e
      | true =>
        rw [hm] at e
        dsimp only at e
        cases hp : f.put o.dst v with
        | none => rw [hp] at e; cases e
        | some f2 =>
          rw [hp] at e
          exact ⟨k, v, _, hr, hm, f2, hp, k, f1, s1, e, q⟩
  · rintro ⟨k, v, s1, e, m, f1, p, q⟩
    exact draw_cons ⟨k, v, s1, e, m, f1, p, q⟩
attribute [simp ↓] draw_nil_iff draw_cons_iff

/-- What a region has left, step by step. -/
def DQ (W : List Nat) (s0 : St) (did : List Did) (h : T Row) (n : Nat) : Prop := s0.n ≤ n ∧ (∀ i, i < s0.n → i ∉ W → h.get i = s0.h.get i) ∧ ∀ i, i ∈ logW did [] → i ∈ W ∨ s0.n ≤ i
theorem DQ.nil (W : List Nat) (s0 : St) : DQ W s0 [] s0.h s0.n := ⟨Nat.le_refl _, fun _ _ _ => rfl, fun i hi => by cases hi⟩
theorem DQ.skip {W : List Nat} {s0 : St} {did : List Did} {h : T Row} {n : Nat} (q : DQ W s0 did h n) (i : Nat) (pr rd : List Nat) : DQ W s0 (⟨i, pr, rd, []⟩ :: did) h n := q
theorem DQ.step {W : List Nat} {s0 s1 : St} {did : List Did} {h : T Row} {n : Nat} (q : DQ W s0 did h n) (k : Quiet W ⟨h, n, [], []⟩ s1) (i : Nat) (pr rd : List Nat) : DQ W s0 (⟨i, pr, rd, s1.wl⟩ :: did) s1.h s1.n := by
  refine ⟨Nat.le_trans q.1 k.n, fun j hj hw => (k.keep j (Nat.lt_of_lt_of_le hj q.1) hw).trans (q.2.1 j hj hw), fun j hj => ?_⟩
  rcases List.mem_append.1 hj with x | x
  · rcases k.wl j x with y | y | y
    · cases y
    · exact .inl y
    · exact .inr (Nat.le_trans q.1 y)
  · exact q.2.2 j x
theorem DQ.fin {W : List Nat} {s0 : St} {did : List Did} {h : T Row} {n : Nat} (q : DQ W s0 did h n) : Quiet W s0 ⟨h, n, logR did s0.rl, logW did s0.wl⟩ :=
  ⟨q.1, q.2.1, fun i hi => by
    have : i ∈ logW did [] ++ s0.wl := by rw [← logW_app]; exact hi
    rcases List.mem_append.1 this with x | x
    · exact .inr (q.2.2 i x)
    · exact .inl x⟩
theorem drwB' {id : Nat} {l : List Oper} {f : AF} {s : St} {Q : X → AF → St → Prop} {prs : List (List Nat)} (hp : statOf ⟨l⟩ = some prs)
    (q : DrawA P tab l s.rl s.wl l 0 prs [] f s.h s.n fun f1 s1 => Q .normal f1 s1) : @DrwB P tab f s ⟨.region id (List.toArray l) true⟩ ⟨Q⟩ := by
  obtain ⟨hh, n, rl, wl⟩ := s
  exact runs_draw hp q
theorem Sl.eqv {s s' : St} {v : Value} {sz n i : Nat} {cs : List Value} (h : Sl s v sz n cs i) (e1 : s'.h = s.h) (e2 : s'.n = s.n) : Sl s' v sz n cs i := by
  refine ⟨h.1, ?_⟩
  rw [e1, e2]; exact h.2

structure Keep (W : List Nat) (s s' : St) : Prop where
  n : s.n ≤ s'.n
  keep : ∀ i, i < s.n → i ∉ W → s'.h.get i = s.h.get i
theorem Quiet.k {W : List Nat} {h : T Row} {n : Nat} {s1 : St} (q : Quiet W ⟨h, n, [], []⟩ s1) {s : St} (e1 : s.h = h) (e2 : s.n = n) : Keep W s ⟨s1.h, s1.n, [], []⟩ := by
  subst e1 e2; exact ⟨q.n, q.keep⟩
theorem Sl.moveK {s s' : St} {v : Value} {sz n i : Nat} {cs : List Value} {W : List Nat} (h : Sl s v sz n cs i) (q : Keep W s s') (hi : i ∉ W) : Sl s' v sz n cs i := by
  refine ⟨h.1, ?_⟩
  rcases h.2 with h | ⟨h1, h2, r, h3⟩
  · exact .inl h
  · exact .inr ⟨Nat.lt_of_lt_of_le h1 q.n, h2, r, by rw [q.keep i h1 hi]; exact h3⟩

theorem Quiet.then {W : List Nat} {a b c : St} {i : Nat} (h : Quiet W a b) (k : Quiet [i] b c) (hi : a.n ≤ i) : Quiet W a c :=
  ((h.sub fun j hj => .inl (List.mem_cons_of_mem i hj)).trans (k.sub fun j hj => .inl (by simp at hj; simp [hj]))).sub fun j hj => by
    rcases List.mem_cons.1 hj with x | x
    · subst x; exact .inr hi
    · exact .inl x
end
end Go.Ax
