/- AX: calls, lists of operations, code. -/
import Derived.Test.YtefogennhgacjaaGreatAxSound15
import Derived.LoopN
namespace Go.Ax
set_option linter.unusedSimpArgs false
set_option linter.unusedVariables false
open Go

/-! ### the next number only grows -/

theorem A.run_n {α : Type} : ∀ (x : A α) {s s1 : St} {a : α}, x.run s = some (a, s1) → s.n ≤ s1.n
  | .ret _, s, s1, a, h => by obtain ⟨_, h⟩ := run_ret h; subst h; exact Nat.le_refl _
  | .fail, s, s1, a, h => (run_fail h).elim
  | .rd i k, s, s1, a, h => by obtain ⟨r, _, h⟩ := run_rd h; have := A.run_n (k r) h; exact this
  | .wr i r k, s, s1, a, h => by obtain ⟨_, h⟩ := run_wr h; have := A.run_n k h; exact this
  | .kl i k, s, s1, a, h => by obtain ⟨_, h⟩ := run_kl h; have := A.run_n k h; exact this
  | .nw r k, s, s1, a, h => by have := A.run_n (k s.n) (run_nw h); simp at this; omega

/-- The table of functions is the program's. -/
def TabOk (P : Program) (tab : Tab) : Prop := (∀ g fn, tab.t.get g = some fn → P.funcs[g]? = some fn ∧ ∀ args w, (callFunc g args).run P w = .ok (.enter g args) w) ∧
  ∀ g args v, tab.kn g args = some v → closed v = true ∧ closed.closedL args = true ∧ (∀ args w, (callFunc g args).run P w = .ok (.enter g args) w) ∧
    ∀ w, Calls P g ⟨args⟩ w fun e w' => e = .returned v ∧ RowKit.Below w.heap.size w w'

def ExN (ex : Ex) : Prop := ∀ c f s x f1 s1, ex c f s = some (x, f1, s1) → s.n ≤ s1.n

section
variable {P : Program} {tab : Tab}

theorem resultsA_n {f : AF} : ∀ {l : List ResultVar} {s s1 : St} {vs : List Value}, resultsA P f l s = some (vs, s1) → s.n ≤ s1.n
  | [], s, s1, vs, h => by simp [resultsA] at h; obtain ⟨_, h⟩ := h; subst h; exact Nat.le_refl _
  | .tmp t :: l, s, s1, vs, h => by
    simp only [resultsA] at h
    split at h
    · cases h; exact resultsA_n (l := l) (by assumption)
    · cases h
  | .cell x t :: l, s, s1, vs, h => by
    simp only [resultsA] at h
    split at h
    · rename_i v s2 h2
      split at h
      · cases h
        have := A.run_n _ h2
        exact Nat.le_trans this (resultsA_n (l := l) (by assumption))
      · cases h
    · cases h

theorem callF0_n {ih : Ex} (hih : ExN ih) {g : FuncId} {args : List Value} {s s1 : St} {v : Value} (h : callF0 P tab ih g args s = some (v, s1)) : s.n ≤ s1.n := by
  unfold callF0 at h
  split at h
  · cases h
  · split at h
    · cases h
    · split at h
      · split at h
        · cases h; exact Nat.le_trans (hih _ _ _ _ _ _ (by assumption)) (resultsA_n (by assumption))
        · cases h
      · split at h
        · cases h; exact Nat.le_trans (hih _ _ _ _ _ _ (by assumption)) (resultsA_n (by assumption))
        · cases h
      · cases h

theorem callF_n {ih : Ex} (hih : ExN ih) {g : FuncId} {args : List Value} {s s1 : St} {v : Value} (h : callF P tab ih g args s = some (v, s1)) : s.n ≤ s1.n := by
  unfold callF at h
  split at h
  · cases h; exact Nat.le_refl _
  · exact callF0_n hih h

theorem runOper_n {ih : Ex} (hih : ExN ih) {o : Oper} {f : AF} {s s1 : St} {v : Value} (h : runOper P tab ih o f s = some (v, s1)) : s.n ≤ s1.n := by
  unfold runOper at h
  split at h
  · split at h
    · exact A.run_n _ h
    · split at h
      · exact callF_n hih h
      · cases h
  · exact A.run_n _ h

theorem runOne_n {ih : Ex} (hih : ExN ih) {ops : List Oper} {o : Oper} {f : AF} {s s1 : St} {v : Value} (h : runOne P tab ih ops o f s = some (v, s1)) : s.n ≤ s1.n := by
  unfold runOne at h
  split at h
  · exact runOper_n hih h
  · cases h; exact Nat.le_refl _

theorem execOps_n {ih : Ex} (hih : ExN ih) {ops : List Oper} : ∀ {l : List Oper} {f f1 : AF} {s s1 : St}, execOps P tab ih ops l f s = some (f1, s1) → s.n ≤ s1.n
  | [], f, f1, s, s1, h => by simp [execOps] at h; obtain ⟨_, h⟩ := h; subst h; exact Nat.le_refl _
  | o :: l, f, f1, s, s1, h => by
    unfold execOps at h
    split at h
    · cases h
    · rename_i v s2 h1
      split at h
      · cases h
      · exact Nat.le_trans (runOne_n hih h1) (execOps_n hih h)

theorem execDraw_n {ih : Ex} (hih : ExN ih) {ops : List Oper} {rl wl : List Nat} : ∀ {l : List Oper} {i : Nat} {prs : List (List Nat)} {did : List Did} {f f1 : AF} {h : T Row} {n : Nat} {s1 : St},
    execDraw P tab ih ops rl wl l i prs did f h n = some (f1, s1) → n ≤ s1.n
  | [], i, prs, did, f, f1, h, n, s1, e => by simp [execDraw] at e; obtain ⟨_, e⟩ := e; subst e; exact Nat.le_refl _
  | _ :: _, i, [], did, f, f1, h, n, s1, e => by simp [execDraw] at e
  | o :: l, i, pr :: prs, did, f, f1, h, n, s1, e => by
    unfold execDraw at e
    split at e
    · cases e
    · rename_i v h1 n1 rl1 wl1 h2
      split at e
      · cases e
      · split at e
        · cases e
        · have := runOne_n hih h2
          exact Nat.le_trans this (execDraw_n hih e)

theorem stepCode_n {ih : Ex} (hih : ExN ih) : ExN (stepCode P tab ih) := by
  intro c f s x f1 s1 h
  cases c <;> simp only [stepCode] at h
  case skip => cases h; exact Nat.le_refl _
  case label => cases h; exact Nat.le_refl _
  case exit => cases h; exact Nat.le_refl _
  case ret => cases h; exact Nat.le_refl _
  case goto => cases h
  case refuse => cases h
  case rangeFunc => cases h
  case scope b => exact hih _ _ _ _ _ _ h
  case seq a b =>
    split at h
    · exact Nat.le_trans (hih _ _ _ _ _ _ (by assumption)) (hih _ _ _ _ _ _ h)
    · exact hih _ _ _ _ _ _ h
  case cond c t e =>
    split at h
    · exact hih _ _ _ _ _ _ h
    · exact hih _ _ _ _ _ _ h
    · cases h
  case block id b =>
    split at h
    · split at h
      · cases h; exact hih _ _ _ _ _ _ (by assumption)
      · cases h; exact hih _ _ _ _ _ _ (by assumption)
    · exact hih _ _ _ _ _ _ h
  case loop b =>
    split at h
    · exact Nat.le_trans (hih _ _ _ _ _ _ (by assumption)) (hih _ _ _ _ _ _ h)
    · exact hih _ _ _ _ _ _ h
  case region id ops d =>
    cases d
    · simp only [stepCode] at h
      split at h
      · cases h; exact execOps_n hih (by assumption)
      · cases h
    · obtain ⟨hh, n, rl, wl⟩ := s
      simp only [stepCode] at h
      split at h
      · split at h
        · cases h; exact execDraw_n hih (by assumption)
        · cases h
      · cases h

theorem exec_n (n : Nat) : ExN (exec P tab n) := by
  induction n with
  | zero => intro c f s x f1 s1 h; simp [exec] at h
  | succ n ih => intro c f s x f1 s1 h; exact stepCode_n ih c f s x f1 s1 h

/-! ### calls -/

variable {B : Nat} {w0 : World}

def toExit : X → Exit
  | .normal => .normal
  | .exit id => .exit id
  | .ret => .ret

/-- What code comes to. -/
def QP (B : Nat) (w0 : World) (m : Map) (n : Nat) (x : X) (f1 : AF) (s1 : St) : Exit → Act → World → Prop := fun e a' w' =>
  e = toExit x ∧ a'.defers = [] ∧ ∃ m', Sub m m' ∧ Rel B w0 m' s1.h w' ∧ FR m' f1 a' ∧ ∀ i, m' i ≠ none → m i ≠ none ∨ (n ≤ i ∧ i < s1.n)

def CallS (P : Program) (tab : Tab) (B : Nat) (w0 : World) (ih : Ex) : Prop := ∀ g args args' s v s1 m w, callF P tab ih g args s = some (v, s1) → VRs m args args' → Rel B w0 m s.h w →
  (∀ i, s.n ≤ i → i < s1.n → m i = none) → Calls P g ⟨args'⟩ w fun e w' => ∃ v', e = .returned v' ∧ Post B w0 m s.n v s1 v' w'

theorem target_sound (ht : TabOk P tab) {m : Map} {f : AF} {a : Act} (F : FR m f a) {o : Oper} {c : Call} (ho : o.op = .call c) (hb : ∀ b, c.callee ≠ .builtin b) {g : FuncId} {args : List Value}
    (h : aTarget P f c = some (g, args)) (hcall : ∀ args w, (callFunc g args).run P w = .ok (.enter g args) w) (w : World) : ∃ args', (execOp a.eval o).run P w = .ok (.enter g ⟨args'⟩) w ∧ VRs m args args' := by
  obtain ⟨dst, op, type, pos, after, guard⟩ := o
  dsimp only at ho
  subst ho
  obtain ⟨callee, xs, tys⟩ := c
  unfold aTarget at h
  split at h
  · cases h
  · rename_i vs hvs
    have hv2 : VRs m vs (xs.map a.eval).toList := by
      have := F.evals hvs
      rw [← Array.toList_map] at this
      exact this
    dsimp only at h
    cases callee with
    | value x =>
      dsimp only at h
      split at h
      · rename_i g' first captured hx
        cases h
        have hx := F.eval hx
        generalize hav : a.eval x = av at *
        cases hx with
        | func h1 h2 =>
          rename_i first' captured'
          refine ⟨(first' ++ (xs.map a.eval).toList) ++ captured', ?_, (h1.append hv2).append h2⟩
          simp [execOp, resolve, hav, Deferred.ofValue, invoke]
          rw [hcall]
          congr 2
          apply Array.ext'
          simp
      · cases h
    | invoke r name =>
      dsimp only at h
      split at h
      · rename_i t v hr
        have hr := F.eval hr
        split at h
        · rename_i hc
          split at h
          · rename_i g' recv hm
            have hm := pv_run hm w
            split at h
            · rename_i hcr
              cases h
              generalize hav : a.eval r = av at *
              cases hr with
              | iface _ hv =>
                have := VR.eq_of_closed hc hv
                subst this
                refine ⟨recv :: (xs.map a.eval).toList, ?_, .cons (VR.of_closed m recv hcr) hv2⟩
                simp [execOp, resolve, hav, invoke, callMethod, hm, Array.getElem?_append]
                rw [hcall]
                congr 2
                apply Array.ext'
                simp
                exact List.take_of_length_le (by simp)
            · cases h
          · cases h
        · cases h
      · cases h
    | builtin b => exact absurd rfl (hb b)

theorem wanted_eq {m : Map} {f : AF} {a : Act} (F : FR m f a) (ops : Array Oper) (o : Oper) : Region.wanted o (yielded ops a.tmps) = wantedA ops.toList o f := by
  have hn : ∀ (l : List Oper) (j : Nat), nthOp l j = l[j]? := by
    intro l
    induction l with
    | nil => intro j; cases j <;> simp [nthOp]
    | cons x l ih => intro j; cases j with
      | zero => simp [nthOp]
      | succ j => simp [nthOp, ih]
  unfold Region.wanted wantedA
  cases hg : o.guard with
  | none => rfl
  | some gw =>
    obtain ⟨j, want⟩ := gw
    dsimp only
    rw [hn, Array.getElem?_toList]
    unfold yielded
    cases ho : ops[j]? with
    | none => simp
    | some p =>
      simp only [Option.bind_some]
      cases hd : p.dst with
      | none => simp
      | some d =>
        simp only [Option.bind_some]
        have hv := F.v d
        rw [Array.getD_eq_getD_getElem?] at hv
        cases ht : a.tmps[d]? with
        | none =>
          rw [ht] at hv
          dsimp only [Option.getD_none] at hv
          generalize hfd : f.get d = fd at *
          cases hv
          rfl
        | some u =>
          rw [ht] at hv
          dsimp only [Option.getD_some] at hv
          generalize hfd : f.get d = fd at *
          cases hv <;> first | rfl | (cases want <;> (rename_i b; cases b <;> rfl))

end
end Go.Ax
