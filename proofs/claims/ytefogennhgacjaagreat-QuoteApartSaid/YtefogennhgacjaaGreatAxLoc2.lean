/- AX: what code reads is all that it hangs on. -/
import Derived.Test.YtefogennhgacjaaGreatAxLoc
namespace Go.Ax
set_option linter.unusedSimpArgs false
set_option linter.unusedVariables false
open Go

theorem Loc.congr {β : Type} {run run' : St → Option (β × St)} (e : ∀ s, run s = run' s) (h : Loc run') : Loc run := by
  have : run = run' := funext e
  rw [this]; exact h

/-- A run of code, as a run. -/
def pair (o : Option (X × AF × St)) : Option ((X × AF) × St) := match o with
  | some (x, f, s) => some ((x, f), s)
  | none => none

def LocE (ex : Ex) : Prop := ∀ c f, Loc (fun s => pair (ex c f s))

section
variable {P : Program} {tab : Tab}

theorem resultsA_loc {f : AF} : ∀ (l : List ResultVar), Loc (resultsA P f l)
  | [] => Loc.congr (fun s => by simp [resultsA]) (Loc.ret [])
  | .tmp t :: l => by
    refine Loc.congr (run' := bindS (resultsA P f l) fun vs s1 => some (f.get t :: vs, s1)) (fun s => ?_) (Loc.bind (resultsA_loc l) (fun vs => Loc.ret _))
    simp only [resultsA, bindS]
    cases resultsA P f l s <;> rfl
  | .cell x t :: l => by
    refine Loc.congr (run' := bindS (aLoad P t (f.get x)).run fun v => bindS (resultsA P f l) fun vs s2 => some (v :: vs, s2)) (fun s => ?_)
      (Loc.bind (A.loc _) fun v => Loc.bind (resultsA_loc l) (fun vs => Loc.ret _))
    simp only [resultsA, bindS]
    cases (aLoad P t (f.get x)).run s with
    | none => rfl
    | some r =>
      dsimp only
      cases resultsA P f l r.2 <;> rfl

theorem callF0_loc {ih : Ex} (hih : LocE ih) (g : FuncId) (args : List Value) : Loc (callF0 P tab ih g args) := by
  cases hg : tab.t.get g with
  | none => exact Loc.congr (fun s => by simp [callF0, hg]) Loc.none
  | some fn =>
    cases hb : fn.body with
    | none => exact Loc.congr (fun s => by simp [callF0, hg, hb]) Loc.none
    | some c =>
      refine Loc.congr (run' := bindS (fun s => pair (ih c (enterA fn args) s)) fun xf => match xf with
          | (.normal, f1) => bindS (resultsA P f1 fn.results.toList) fun vs s2 => some (one vs, s2)
          | (.ret, f1) => bindS (resultsA P f1 fn.results.toList) fun vs s2 => some (one vs, s2)
          | (.exit _, _) => fun _ => none) (fun s => ?_) (Loc.bind (hih c _) fun xf => ?_)
      · simp only [callF0, hg, hb, pair, bindS]
        cases ih c (enterA fn args) s with
        | none => rfl
        | some r =>
          obtain ⟨x, f1, s1⟩ := r
          cases x <;> dsimp only
          · unfold bindS; cases resultsA P f1 fn.results.toList s1 <;> rfl
          · unfold bindS; cases resultsA P f1 fn.results.toList s1 <;> rfl
      · obtain ⟨x, f1⟩ := xf
        cases x with
        | normal => exact Loc.bind (resultsA_loc _) (fun vs => Loc.ret _)
        | ret => exact Loc.bind (resultsA_loc _) (fun vs => Loc.ret _)
        | exit id => exact Loc.none

theorem callF_loc {ih : Ex} (hih : LocE ih) (g : FuncId) (args : List Value) : Loc (callF P tab ih g args) := by
  cases hk : tab.kn g args with
  | some v => exact Loc.congr (fun s => by simp [callF, hk]) (Loc.ret v)
  | none => exact Loc.congr (fun s => by simp [callF, hk]) (callF0_loc (P := P) (tab := tab) hih g args)

theorem runOper_loc {ih : Ex} (hih : LocE ih) (o : Oper) (f : AF) : Loc (runOper P tab ih o f) := by
  have plain : ∀ op : Op, Loc (fun s => (aOp P f op).run s) := fun op => A.loc _
  cases hop : o.op
  case call c =>
    cases hc : c.callee with
    | builtin b => exact Loc.congr (fun s => by simp [runOper, hop, hc]) (plain (.call c))
    | value x =>
      cases ht : aTarget P f c with
      | none => exact Loc.congr (fun s => by simp [runOper, hop, hc, ht]) Loc.none
      | some ga => exact Loc.congr (fun s => by simp [runOper, hop, hc, ht]) (callF_loc (P := P) (tab := tab) hih ga.1 ga.2)
    | invoke r n =>
      cases ht : aTarget P f c with
      | none => exact Loc.congr (fun s => by simp [runOper, hop, hc, ht]) Loc.none
      | some ga => exact Loc.congr (fun s => by simp [runOper, hop, hc, ht]) (callF_loc (P := P) (tab := tab) hih ga.1 ga.2)
  all_goals exact Loc.congr (fun s => by simp [runOper, hop]) (plain o.op)

theorem runOne_loc {ih : Ex} (hih : LocE ih) (ops : List Oper) (o : Oper) (f : AF) : Loc (runOne P tab ih ops o f) := by
  cases hw : wantedA ops o f with
  | true => exact Loc.congr (fun s => by simp [runOne, hw]) (runOper_loc (P := P) (tab := tab) hih o f)
  | false => exact Loc.congr (fun s => by simp [runOne, hw]) (Loc.ret undef)

theorem execOps_loc {ih : Ex} (hih : LocE ih) (ops : List Oper) : ∀ (l : List Oper) (f : AF), Loc (execOps P tab ih ops l f)
  | [], f => Loc.congr (fun s => by simp [execOps]) (Loc.ret f)
  | o :: l, f => by
    refine Loc.congr (run' := bindS (runOne P tab ih ops o f) fun v s1 => match f.put o.dst v with | none => none | some f1 => execOps P tab ih ops l f1 s1) (fun s => ?_) (Loc.bind (runOne_loc hih ops o f) fun v => ?_)
    · simp only [execOps, bindS]
      cases runOne P tab ih ops o f s with
      | none => rfl
      | some r => rfl
    · cases hp : f.put o.dst v with
      | none => exact Loc.none
      | some f1 => exact execOps_loc hih ops l f1

theorem logR_app (did : List Did) (r : List Nat) : logR did r = logR did [] ++ r := by
  induction did with
  | nil => rfl
  | cons d l ih => simp [logR, ih]
theorem logW_app (did : List Did) (r : List Nat) : logW did r = logW did [] ++ r := by
  induction did with
  | nil => rfl
  | cons d l ih => simp [logW, ih]

theorem draw_loc {ih : Ex} (hih : LocE ih) (ops : List Oper) : ∀ (l : List Oper) (i : Nat) (prs : List (List Nat)) (did : List Did) (f f1 : AF) (rl wl : List Nat) (h : T Row) (n : Nat) (s1 : St),
    execDraw P tab ih ops rl wl l i prs did f h n = some (f1, s1) →
      ∃ dr dw, s1.rl = dr ++ logR did rl ∧ s1.wl = dw ++ logW did wl ∧ n ≤ s1.n ∧ (∀ i, i ∉ dw → s1.h.get i = h.get i) ∧ (∀ i, i ∈ dw → i ∈ dr ∨ (n ≤ i ∧ i < s1.n)) ∧
        ∀ (rl' wl' : List Nat) (h' : T Row), (∀ i, i ∈ dr → h'.get i = h.get i) →
          ∃ t1, execDraw P tab ih ops rl' wl' l i prs did f h' n = some (f1, t1) ∧ t1.n = s1.n ∧ t1.rl = dr ++ logR did rl' ∧ t1.wl = dw ++ logW did wl' ∧ (∀ i, i ∈ dw → t1.h.get i = s1.h.get i) ∧ (∀ i, i ∉ dw → t1.h.get i = h'.get i)
  | [], i, prs, did, f, f1, rl, wl, h, n, s1, e => by
    simp only [execDraw] at e
    cases e
    exact ⟨[], [], rfl, rfl, Nat.le_refl _, fun _ _ => rfl, fun i hi => (by cases hi), fun rl' wl' h' _ => ⟨⟨h', n, logR did rl', logW did wl'⟩, by simp only [execDraw], rfl, rfl, rfl, fun i hi => (by cases hi), fun _ _ => rfl⟩⟩
  | _ :: _, i, [], did, f, f1, rl, wl, h, n, s1, e => by simp [execDraw] at e
  | o :: l, i, pr :: prs, did, f, f1, rl, wl, h, n, s1, e => by
    unfold execDraw at e
    split at e
    · cases e
    · rename_i v h1 n1 rl1 wl1 hrun
      split at e
      · cases e
      · rename_i hmay
        split at e
        · cases e
        · rename_i f2 hp
          obtain ⟨dr1, dw1, a1, a2, a3, a4, a5, a6⟩ := runOne_loc hih ops o f _ _ _ hrun
          obtain ⟨dr2, dw2, b1, b2, b3, b4, b5, b6⟩ := draw_loc hih ops l (i + 1) prs _ f2 f1 rl wl h1 n1 s1 e
          simp only [List.append_nil] at a1 a2
          subst a1 a2
          refine ⟨dr2 ++ rl1, dw2 ++ wl1, by rw [b1]; simp [logR], by rw [b2]; simp [logW], Nat.le_trans a3 b3, ?_, ?_, ?_⟩
          · intro j hj
            rw [List.mem_append] at hj
            rw [b4 j (fun h => hj (.inl h))]
            exact a4 j (fun h => hj (.inr h))
          · intro j hj
            rw [List.mem_append] at hj ⊢
            dsimp only at a3 a5
            rcases hj with hj | hj
            · rcases b5 j hj with h | h
              · exact .inl (.inl h)
              · right; omega
            · rcases a5 j hj with h | h
              · exact .inl (.inr h)
              · right; omega
          · intro rl' wl' h' hag
            obtain ⟨⟨h2, n2, rl2, wl2⟩, c1, c2, c3, c4, c5, c6⟩ := a6 ⟨h', n, [], []⟩ rfl (fun j hj => hag j (List.mem_append.2 (.inr hj)))
            dsimp only at c2 c3 c4 c5 c6 a4
            simp only [List.append_nil] at c3 c4
            subst c2 c3 c4
            have hag2 : ∀ j, j ∈ dr2 → h2.get j = h1.get j := by
              intro j hj
              by_cases hw : j ∈ wl2
              · exact c5 j hw
              · rw [c6 j hw, a4 j hw]; exact hag j (List.mem_append.2 (.inl hj))
            obtain ⟨t2, d1, d2, d3, d4, d5, d6⟩ := b6 rl' wl' h2 hag2
            refine ⟨t2, ?_, d2, by rw [d3]; simp [logR], by rw [d4]; simp [logW], ?_, ?_⟩
            · simp only [execDraw, c1, hmay, hp]
              exact d1
            · intro j hj
              by_cases hw : j ∈ dw2
              · exact d5 j hw
              · have hj : j ∈ wl2 := by
                  rcases List.mem_append.1 hj with h | h
                  · exact absurd h hw
                  · exact h
                rw [d6 j hw, c5 j hj, b4 j hw]
            · intro j hj
              rw [List.mem_append] at hj
              rw [d6 j (fun h => hj (.inl h)), c6 j (fun h => hj (.inr h))]

theorem stepCode_loc {ih : Ex} (hih : LocE ih) : LocE (stepCode P tab ih) := by
  intro c f
  cases c
  case skip => exact Loc.congr (fun s => by simp [stepCode, pair]) (Loc.ret (X.normal, f))
  case label l => exact Loc.congr (fun s => by simp [stepCode, pair]) (Loc.ret (X.normal, f))
  case exit id => exact Loc.congr (fun s => by simp [stepCode, pair]) (Loc.ret (X.exit id, f))
  case ret => exact Loc.congr (fun s => by simp [stepCode, pair]) (Loc.ret (X.ret, f))
  case goto => exact Loc.congr (fun s => by simp [stepCode, pair]) Loc.none
  case refuse => exact Loc.congr (fun s => by simp [stepCode, pair]) Loc.none
  case rangeFunc => exact Loc.congr (fun s => by simp [stepCode, pair]) Loc.none
  case scope b => exact Loc.congr (fun s => by simp [stepCode]) (hih b f)
  case seq a b =>
    refine Loc.congr (run' := bindS (fun s => pair (ih a f s)) fun xf s1 => match xf with | (.normal, f1) => pair (ih b f1 s1) | (.exit id, f1) => some ((.exit id, f1), s1) | (.ret, f1) => some ((.ret, f1), s1)) (fun s => ?_) (Loc.bind (hih a f) fun xf => ?_)
    · simp only [stepCode, bindS]
      cases ih a f s with
      | none => rfl
      | some r => obtain ⟨x, f1, s1⟩ := r; cases x <;> rfl
    · obtain ⟨x, f1⟩ := xf
      cases x with
      | normal => exact hih b f1
      | exit id => exact Loc.ret _
      | ret => exact Loc.ret _
  case loop b =>
    refine Loc.congr (run' := bindS (fun s => pair (ih b f s)) fun xf s1 => match xf with | (.normal, f1) => pair (ih (.loop b) f1 s1) | (.exit id, f1) => some ((.exit id, f1), s1) | (.ret, f1) => some ((.ret, f1), s1)) (fun s => ?_) (Loc.bind (hih b f) fun xf => ?_)
    · simp only [stepCode, bindS]
      cases ih b f s with
      | none => rfl
      | some r => obtain ⟨x, f1, s1⟩ := r; cases x <;> rfl
    · obtain ⟨x, f1⟩ := xf
      cases x with
      | normal => exact hih (.loop b) f1
      | exit id => exact Loc.ret _
      | ret => exact Loc.ret _
  case block id b =>
    refine Loc.congr (run' := bindS (fun s => pair (ih b f s)) fun xf s1 => match xf with | (.normal, f1) => some ((.normal, f1), s1) | (.exit id', f1) => some ((match Nat.beq id' id with | true => .normal | false => .exit id', f1), s1) | (.ret, f1) => some ((.ret, f1), s1)) (fun s => ?_) (Loc.bind (hih b f) fun xf => ?_)
    · simp only [stepCode, bindS]
      cases ih b f s with
      | none => rfl
      | some r =>
        obtain ⟨x, f1, s1⟩ := r
        cases x with
        | normal => rfl
        | ret => rfl
        | exit id' => dsimp only [pair]; cases Nat.beq id' id <;> rfl
    · obtain ⟨x, f1⟩ := xf
      cases x with
      | normal => exact Loc.ret _
      | exit id' => exact Loc.ret _
      | ret => exact Loc.ret _
  case cond c t e =>
    cases hc : f.eval c with
    | none => exact Loc.congr (fun s => by simp [stepCode, hc, pair]) Loc.none
    | some v =>
      cases v
      case bool b =>
        cases b with
        | true => exact Loc.congr (fun s => by simp [stepCode, hc]) (hih t f)
        | false => exact Loc.congr (fun s => by simp [stepCode, hc]) (hih e f)
      all_goals exact Loc.congr (fun s => by simp [stepCode, hc, pair]) Loc.none
  case region id ops d =>
    cases d with
    | false =>
      refine Loc.congr (run' := bindS (execOps P tab ih ops.toList ops.toList f) fun f1 s1 => some ((X.normal, f1), s1)) (fun s => ?_) (Loc.bind (execOps_loc hih _ _ f) (fun f1 => Loc.ret _))
      simp only [stepCode, bindS]
      cases execOps P tab ih ops.toList ops.toList f s with
      | none => rfl
      | some r => rfl
    | true =>
      cases hst : statOf ops with
      | none => exact Loc.congr (fun s => by obtain ⟨hh, n, rl, wl⟩ := s; simp [stepCode, hst, pair]) Loc.none
      | some prs =>
        intro s b s1 h
        obtain ⟨hh, n, rl, wl⟩ := s
        simp only [stepCode, hst] at h
        cases hd : execDraw P tab ih ops.toList rl wl ops.toList 0 prs [] f hh n with
        | none => rw [hd] at h; simp [pair] at h
        | some r =>
          obtain ⟨f1, s2⟩ := r
          rw [hd] at h
          simp only [pair, Option.some.injEq, Prod.mk.injEq] at h
          obtain ⟨h1, h2⟩ := h
          subst h1 h2
          obtain ⟨dr, dw, g1, g2, g3, g4, g5, g6⟩ := draw_loc hih _ _ _ _ _ _ _ _ _ _ _ _ hd
          refine ⟨dr, dw, g1, g2, g3, g4, g5, fun t hn ht => ?_⟩
          obtain ⟨hh', n', rl', wl'⟩ := t
          dsimp only at hn
          subst hn
          obtain ⟨t1, k1, k2, k3, k4, k5, k6⟩ := g6 rl' wl' hh' ht
          exact ⟨t1, by simp only [stepCode, hst, k1, pair], k2, k3, k4, k5, k6⟩

theorem exec_loc (n : Nat) : LocE (exec P tab n) := by
  induction n with
  | zero => intro c f; exact Loc.congr (fun s => by simp [exec, pair]) Loc.none
  | succ n ih => intro c f; exact stepCode_loc ih c f

end
end Go.Ax
