/- AX: the executor, for a seat: the table's facts, what a run says. -/
import Derived.Test.YtefogennhgacjaaGreatAxDraw4
namespace Go.Ax
set_option linter.unusedSimpArgs false
set_option linter.unusedVariables false
open Go

def OkF (P : Program) (g : FuncId) (fn : Func) : Prop := P.funcs[g]? = some fn ∧ ∀ args w, (callFunc g args).run P w = .ok (.enter g args) w

def T.toL {α : Type} : T α → (Nat → Nat) → List (Nat × α)
  | .nil, _ => []
  | .node v l r, k => (match v with | some x => [(k 0, x)] | none => []) ++ (T.toL l (fun i => k (2 * i + 1)) ++ T.toL r (fun i => k (2 * i + 2)))

theorem T.get_toL {α : Type} : ∀ (t : T α) (k : Nat → Nat) (i : Nat) (x : α), t.get i = some x → (k i, x) ∈ t.toL k
  | .nil, k, i, x, h => by simp [T.get] at h
  | .node v l r, k, i, x, h => by
    unfold T.toL
    simp only [List.mem_append]
    cases i with
    | zero =>
      simp [T.get] at h
      subst h
      left; simp
    | succ n =>
      right
      unfold T.get at h
      dsimp only at h
      split at h
      · rename_i hb
        have hb := Nat.eq_of_beq_eq_true hb
        have := T.get_toL l (fun i => k (2 * i + 1)) (n / 2) x h
        left
        rw [show n + 1 = 2 * (n / 2) + 1 from by omega]
        exact this
      · rename_i hb
        have hb := Nat.ne_of_beq_eq_false hb
        have := T.get_toL r (fun i => k (2 * i + 2)) (n / 2) x h
        right
        rw [show n + 1 = 2 * (n / 2) + 2 from by omega]
        exact this

theorem tabOk_of {P : Program} {tab : T Func} {l : List (Nat × Func)} (e : tab.toL (fun i => i) = l) (h : ∀ x ∈ l, OkF P x.1 x.2) : TabOk P ⟨tab, fun _ _ => none⟩ := by
  refine ⟨fun g fn hg => ?_, fun g args v hk => by cases hk⟩
  have := T.get_toL tab (fun i => i) g fn hg
  rw [e] at this
  exact h _ this

theorem all_cons {α : Type} {p : α → Prop} {x : α} {l : List α} (h : p x) (k : ∀ e ∈ l, p e) : ∀ e ∈ x :: l, p e := by
  intro e he
  cases he with
  | head => exact h
  | tail _ he => exact k e he

/-- A run came to true. -/
def isTrue : Option (Value × St) → Bool
  | some (.bool true, _) => true
  | _ => false

theorem isTrue_spec {o : Option (Value × St)} (h : isTrue o = true) : ∃ s, o = some (.bool true, s) := by
  unfold isTrue at h
  split at h
  · exact ⟨_, rfl⟩
  · cases h

/-- A call that the executor runs to true returns true, whatever the world, and turns nothing that was there. -/
theorem calls_true {P : Program} {tab : Tab} (ht : TabOk P tab) (hmix : P.follows .mixedOrders = true) {fuel : Nat} {g : FuncId} {args : List Value} (h : isTrue (runF P tab fuel g args) = true)
    (hargs : VRs (fun _ => none) args args) (w : World) : Calls P g ⟨args⟩ w fun e w' => e = .returned (.bool true) ∧ RowKit.Below w.heap.size w w' := by
  obtain ⟨s, hs⟩ := isTrue_spec h
  refine (runF_sound ht hmix hs hargs w).mono fun e w' he => ?_
  obtain ⟨v', h1, ⟨m, h2⟩, h3⟩ := he
  cases h2
  exact ⟨h1, h3⟩

end Go.Ax
