/- AX: a region that draws its order: an operation hangs on what it looks at. -/
import Derived.Test.YtefogennhgacjaaGreatAxDraw
namespace Go.Ax
set_option linter.unusedSimpArgs false
set_option linter.unusedVariables false
open Go

section
variable {P : Program} {tab : Tab}

def Agree (f f' : AF) (l : List Operand) : Prop := ∀ x ∈ l, f.eval x = f'.eval x

theorem evals_congr {f f' : AF} : ∀ {l : List Operand}, Agree f f' l → evals f l = evals f' l
  | [], _ => rfl
  | x :: l, h => by
    unfold evals
    rw [h x (by simp), evals_congr (fun y hy => h y (by simp [hy]))]

theorem evalO_congr {f f' : AF} {x : Option Operand} (h : ∀ y, x = some y → f.eval y = f'.eval y) : evalO f x = evalO f' x := by
  cases x with
  | none => rfl
  | some y => simp only [evalO]; rw [h y rfl]

theorem aOp_congr {f f' : AF} {op : Op} (hs : ∀ cs b, op ≠ .select cs b) (h : ∀ x ∈ op.operands, f.eval x = f'.eval x) : aOp P f op = aOp P f' op := by
  cases op <;> simp only [Op.operands] at h <;> simp only [aOp]
  case build t ps =>
    rw [evals_congr (f := f) (f' := f') fun x hx => h x (by simpa using hx)]
  case buildSlice t n ps =>
    rw [evals_congr (f := f) (f' := f') fun x hx => h x (by simpa using hx)]
  case makeFunc fn first captured =>
    cases fn <;> simp only [aOp]
    rw [evals_congr (l := first.toList) (f := f) (f' := f') fun x hx => h x (by simp; exact .inl (by simpa using hx)), evals_congr (l := captured.toList) (f := f) (f' := f') fun x hx => h x (by simp; exact .inr (by simpa using hx))]
  case makeMap t r => cases r <;> simp only [aOp]
  case slice t x lo hi mx =>
    rw [h x (by simp), evalO_congr (x := lo) (f := f) (f' := f') fun y hy => h y (by simp [hy]), evalO_congr (x := hi) (f := f) (f' := f') fun y hy => h y (by simp [hy]), evalO_congr (x := mx) (f := f) (f' := f') fun y hy => h y (by simp [hy])]
  case next x s => rw [h x (by simp)]
  case entry x => rw [h x (by simp)]
  case call c =>
    obtain ⟨callee, args, tys⟩ := c
    cases callee <;> simp only [aOp]
    rw [evals_congr (f := f) (f' := f') fun x hx => h x (by simp [Call.operands]; simpa using hx)]
  all_goals first
    | rfl
    | (simp_all; done)

theorem aTarget_congr {f f' : AF} {c : Call} (h : ∀ x ∈ c.operands, f.eval x = f'.eval x) : aTarget P f c = aTarget P f' c := by
  unfold aTarget
  rw [evals_congr (l := c.args.toList) (f := f) (f' := f') fun x hx => h x (by simp [Call.operands]; exact .inr (by simpa using hx))]
  obtain ⟨callee, args, tys⟩ := c
  cases callee with
  | value x => dsimp only; rw [h x (by simp [Call.operands])]
  | invoke r n => dsimp only; rw [h r (by simp [Call.operands])]
  | builtin b => rfl

theorem runOne_congr {ih : Ex} {ops : Array Oper} {f f' : AF} {o : Oper} (hs : ∀ cs b, o.op ≠ .select cs b) (h : ∀ t ∈ o.looksAt ops, f.get t = f'.get t) (s : St) : runOne P tab ih ops.toList o f s = runOne P tab ih ops.toList o f' s := by
  have hop : ∀ x ∈ o.op.operands, f.eval x = f'.eval x := by
    intro x hx
    cases x with
    | tmp t =>
      simp only [AF.eval]
      rw [h t]
      exact List.mem_append_left _ (List.mem_filterMap.2 ⟨.tmp t, by simpa using hx, rfl⟩)
    | const v => rfl
    | global g => rfl
    | func g => rfl
  have hw : wantedA ops.toList o f = wantedA ops.toList o f' := by
    unfold wantedA
    cases hg : o.guard with
    | none => rfl
    | some gw =>
      obtain ⟨j, want⟩ := gw
      dsimp only
      have hn : nthOp ops.toList j = ops[j]? := by
        have : ∀ (l : List Oper) (j : Nat), nthOp l j = l[j]? := by
          intro l
          induction l with
          | nil => intro j; cases j <;> simp [nthOp]
          | cons x l ih => intro j; cases j with
            | zero => simp [nthOp]
            | succ j => simp [nthOp, ih]
        rw [this, Array.getElem?_toList]
      rw [hn]
      cases ho : ops[j]? with
      | none => rfl
      | some p =>
        dsimp only
        cases hd : p.dst with
        | none => rfl
        | some d =>
          dsimp only
          rw [h d]
          refine List.mem_append_right _ ?_
          simp [hg, ho, hd]
  have ha : ∀ op, o.op = op → aOp P f op = aOp P f' op := by
    intro op e; subst e; exact aOp_congr hs hop
  unfold runOne
  rw [hw]
  split
  · unfold runOper
    split
    · rename_i c hc
      rw [ha _ rfl]
      split
      · rfl
      · rw [aTarget_congr (f := f) (f' := f') (c := c) fun x hx => hop x (by rw [hc]; exact hx)]
    · rw [ha _ rfl]
  · rfl

/-- What a region that draws its order comes to, operation by operation. -/
structure Trace (P : Program) (tab : Tab) (ih : Ex) (ops : Array Oper) (pr : Nat → List Nat) (F : Nat → AF) (H : Nat → T Row) (N : Nat → Nat) (V : Nat → Value) (RD EF : Nat → List Nat) : Prop where
  run : ∀ i o, ops[i]? = some o → runOne P tab ih ops.toList o (F i) ⟨H i, N i, [], []⟩ = some (V i, ⟨H (i + 1), N (i + 1), RD i, EF i⟩)
  put : ∀ i o, ops[i]? = some o → (F i).put o.dst (V i) = some (F (i + 1))
  pass : ∀ i j, j < i → i < ops.size → j ∉ pr i → apartN (EF j) (RD i) = true ∧ apartN (EF i) (RD j) = true ∧ apartN (EF j) (EF i) = true

theorem mayPass_spec {e d : Did} (h : mayPass e d = true) (hn : d.i ∉ e.pr) : apartN d.eff e.rd = true ∧ apartN e.eff d.rd = true ∧ apartN d.eff e.eff = true := by
  unfold mayPass at h
  split at h
  · rename_i hb; exact absurd ((hasN_iff _ _).1 hb) hn
  · split at h
    · split at h
      · exact ⟨by assumption, by assumption, h⟩
      · cases h
    · cases h

theorem mayAll_spec {e : Did} : ∀ {l : List Did}, mayAll e l = true → ∀ d ∈ l, mayPass e d = true
  | [], _, d, hd => by cases hd
  | x :: l, h, d, hd => by
    unfold mayAll at h
    split at h
    · cases hd with
      | head => assumption
      | tail _ hd => exact mayAll_spec h d hd
    · cases h

theorem draw_trace {ih : Ex} {ops : List Oper} {rl wl : List Nat} : ∀ {l : List Oper} {i : Nat} {prs : List (List Nat)} {did : List Did} {f f1 : AF} {h : T Row} {n : Nat} {s1 : St},
    execDraw P tab ih ops rl wl l i prs did f h n = some (f1, s1) →
      ∃ (F : Nat → AF) (H : Nat → T Row) (N : Nat → Nat) (V : Nat → Value) (RD EF : Nat → List Nat), F i = f ∧ H i = h ∧ N i = n ∧ F (i + l.length) = f1 ∧ H (i + l.length) = s1.h ∧ N (i + l.length) = s1.n ∧
        ∀ k o, l[k]? = some o → runOne P tab ih ops o (F (i + k)) ⟨H (i + k), N (i + k), [], []⟩ = some (V (i + k), ⟨H (i + k + 1), N (i + k + 1), RD (i + k), EF (i + k)⟩) ∧
          (F (i + k)).put o.dst (V (i + k)) = some (F (i + k + 1)) ∧
          (∀ d ∈ did, d.i ∉ prs[k]?.getD [] → apartN d.eff (RD (i + k)) = true ∧ apartN (EF (i + k)) d.rd = true ∧ apartN d.eff (EF (i + k)) = true) ∧
          ∀ j, j < k → i + j ∉ prs[k]?.getD [] → apartN (EF (i + j)) (RD (i + k)) = true ∧ apartN (EF (i + k)) (RD (i + j)) = true ∧ apartN (EF (i + j)) (EF (i + k)) = true
  | [], i, prs, did, f, f1, h, n, s1, e => by
    simp only [execDraw] at e
    cases e
    exact ⟨fun _ => f, fun _ => h, fun _ => n, fun _ => undef, fun _ => [], fun _ => [], rfl, rfl, rfl, rfl, rfl, rfl, fun k o hk => by simp at hk⟩
  | _ :: _, i, [], did, f, f1, h, n, s1, e => by simp [execDraw] at e
  | o :: l, i, pr :: prs, did, f, f1, h, n, s1, e => by
    unfold execDraw at e
    split at e
    · cases e
    · rename_i v h1 n1 rl1 wl1 hrun
      split at e
      · cases e
      · rename_i hmay
        split at e
        · cases e
        · rename_i f2 hp
          obtain ⟨F, H, N, V, RD, EF, a1, a2, a3, a4, a5, a6, a7⟩ := draw_trace e
          let up {α : Type} (g : Nat → α) (x : α) : Nat → α := fun k => if k = i then x else g k
          have upi : ∀ {α : Type} (g : Nat → α) (x : α), up g x i = x := fun g x => by simp [up]
          have upn : ∀ {α : Type} (g : Nat → α) (x : α) (k : Nat), k ≠ i → up g x k = g k := fun g x k hk => by simp [up, hk]
          refine ⟨up F f, up H h, up N n, up V v, up RD rl1, up EF wl1, upi _ _, upi _ _, upi _ _, ?_, ?_, ?_, ?_⟩
          · rw [upn _ _ _ (by simp), ← a4]; congr 1; simp; omega
          · rw [upn _ _ _ (by simp), ← a5]; congr 1; simp; omega
          · rw [upn _ _ _ (by simp), ← a6]; congr 1; simp; omega
          · intro k o' hk
            cases k with
            | zero =>
              simp at hk; subst hk
              simp only [Nat.add_zero, upi]
              rw [upn F _ (i + 1) (by omega), upn H _ (i + 1) (by omega), upn N _ (i + 1) (by omega), a1, a2, a3]
              refine ⟨hrun, hp, fun d hd hn => ?_, fun j hj => by omega⟩
              exact mayPass_spec (mayAll_spec hmay d hd) (by simpa using hn)
            | succ k =>
              simp at hk
              obtain ⟨b1, b2, b3, b4⟩ := a7 k o' hk
              have e1 : i + (k + 1) = i + 1 + k := by omega
              have ne1 : i + 1 + k ≠ i := by omega
              have ne2 : i + 1 + k + 1 ≠ i := by omega
              rw [e1, upn F _ _ ne1, upn H _ _ ne1, upn N _ _ ne1, upn V _ _ ne1, upn RD _ _ ne1, upn EF _ _ ne1, upn F _ _ ne2, upn H _ _ ne2, upn N _ _ ne2]
              refine ⟨b1, b2, fun d hd hn => b3 d (by simp [hd]) (by simpa using hn), fun j hj hn => ?_⟩
              cases j with
              | zero =>
                simp only [Nat.add_zero, upi]
                exact b3 ⟨i, pr, rl1, wl1⟩ (by simp) (by simpa using hn)
              | succ j =>
                have e2 : i + (j + 1) = i + 1 + j := by omega
                have ne3 : i + 1 + j ≠ i := by omega
                rw [e2, upn EF _ _ ne3, upn RD _ _ ne3]
                exact b4 j (by omega) (by rw [← e2]; simpa using hn)

theorem trace_of {ih : Ex} {ops : Array Oper} {prs : List (List Nat)} {rl wl : List Nat} {f f1 : AF} {h : T Row} {n : Nat} {s1 : St} (e : execDraw P tab ih ops.toList rl wl ops.toList 0 prs [] f h n = some (f1, s1)) :
    ∃ (F : Nat → AF) (H : Nat → T Row) (N : Nat → Nat) (V : Nat → Value) (RD EF : Nat → List Nat), Trace P tab ih ops (fun i => prs[i]?.getD []) F H N V RD EF ∧ F 0 = f ∧ H 0 = h ∧ N 0 = n ∧ F ops.size = f1 ∧ H ops.size = s1.h ∧ N ops.size = s1.n := by
  obtain ⟨F, H, N, V, RD, EF, a1, a2, a3, a4, a5, a6, a7⟩ := draw_trace e
  simp only [Nat.zero_add, Array.length_toList] at a4 a5 a6 a7
  refine ⟨F, H, N, V, RD, EF, ⟨fun i o ho => (a7 i o (by rw [Array.getElem?_toList]; exact ho)).1, fun i o ho => (a7 i o (by rw [Array.getElem?_toList]; exact ho)).2.1, fun i j hji hi hn => ?_⟩, a1, a2, a3, a4, a5, a6⟩
  exact (a7 i ops[i] (by simp [hi])).2.2.2 j hji hn

end
end Go.Ax
