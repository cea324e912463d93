/- AX: structs compared. -/
import Derived.Test.YtefogennhgacjaaGreatAxWpd
import Derived.Laws.StructEq
namespace Go.Ax
set_option linter.unusedSimpArgs false
set_option linter.unusedVariables false
open Go

section
variable {P : Program}

theorem pvb {α β : Type} (f : α → Sem β) : ∀ (x : Sem α), pv P (x >>= f) = (pv P x).bind fun a => pv P (f a)
  | .pure a => rfl
  | .program k => pvb f (k P)
  | .mark _ k => pvb f k
  | .load .. => rfl
  | .store .. => rfl
  | .new .. => rfl
  | .shape .. => rfl
  | .freeze .. => rfl
  | .frozen .. => rfl
  | .getObj .. => rfl
  | .setObj .. => rfl
  | .choose .. => rfl
  | .sys .. => rfl
  | .halt .. => rfl

theorem pv_pure {α : Type} (a : α) : pv P (pure a : Sem α) = some a := rfl

theorem pv_equalIn_struct (d : Nat) (t : TypeId) (xs ys : Array Value) (hu : pv P (underlying t) = some (.struct (P.fieldsOf t))) (hp : P.stoodInHeld t = false) :
    pv P (Op.equalIn (d + 1) t (.agg xs) (.agg ys)) = pv P (Op.eqFields d xs ys (P.fieldsOf t).toList) := by
  unfold Op.equalIn
  rw [pvb, hu]
  dsimp only [Option.bind]
  rw [pvb]
  rw [show pv P program = some P from rfl]
  dsimp only [Option.bind]
  rw [hp]
  simp only [Bool.false_eq_true, if_false]
  rw [← Array.forIn_toList]
  generalize (P.fieldsOf t).toList = fs
  clear hu
  rw [pvb]
  induction fs with
  | nil => rfl
  | cons f fs ih =>
    simp only [List.forIn_cons, Op.eqFields]
    split
    · simp only [pvb]
      cases pv P (part f.type xs f.offset) with
      | none => rfl
      | some a =>
        cases pv P (part f.type ys f.offset) with
        | none => rfl
        | some b =>
          simp only [Option.bind]
          cases pv P (Op.equalIn d f.type a b) with
          | none => rfl
          | some r =>
            cases r
            · simp [pv_pure, pvb]
            · simp only [Bool.not_true, Bool.false_eq_true, if_false, pv_pure]
              exact ih
    · simp only [pvb, pv_pure]
      exact ih

theorem pv_equalIn_int (d : Nat) (t : TypeId) (k k' : IntKind) (a b : Int) (h : pv P (underlying t) = some (.int k')) : pv P (Op.equalIn (d + 1) t (.int k a) (.int k b)) = some (a == b) := by
  unfold Op.equalIn
  rw [pvb, h]
  simp [pv_pure]

theorem pv_eqFields (d : Nat) (xs ys : Array Value) (f : Field) (fs : List Field) (a b : Value) (r : Bool) (hn : f.name ≠ "_") (ha : pv P (part f.type xs f.offset) = some a) (hb : pv P (part f.type ys f.offset) = some b)
    (he : pv P (Op.equalIn d f.type a b) = some r) : pv P (Op.eqFields d xs ys (f :: fs)) = if r then pv P (Op.eqFields d xs ys fs) else some false := by
  simp only [Op.eqFields]
  rw [if_pos hn, pvb, ha]
  dsimp only [Option.bind]
  rw [pvb, hb]
  dsimp only [Option.bind]
  rw [pvb, he]
  dsimp only [Option.bind]
  cases r <;> rfl

theorem pv_eqFields_refl (d : Nat) (xs : Array Value) : ∀ (fs : List Field), (∀ f, f ∈ fs → f.name ≠ "_" ∧ pv P (underlying f.type) = some (.int .i64) ∧ ∃ n, pv P (part f.type xs f.offset) = some (.int .i64 n)) → pv P (Op.eqFields (d + 1) xs xs fs) = some true
  | [], _ => rfl
  | f :: fs, h => by
    obtain ⟨h1, h2, n, h3⟩ := h f (by simp)
    rw [pv_eqFields (d + 1) xs xs f fs _ _ true h1 h3 h3 (by rw [pv_equalIn_int d _ _ _ _ _ h2]; simp)]
    exact pv_eqFields_refl d xs fs fun g hg => h g (by simp [hg])

theorem neq_struct {t : TypeId} {x y : Operand} {xs : Array Value} (hu : pv P (underlying t) = some (.struct (P.fieldsOf t))) (hp : P.stoodInHeld t = false) (hc : closed (.agg xs) = true)
    (hg : pv P (eqGuard .neq t x y (.agg xs) (.agg xs)) = some ()) (hf : ∀ f, f ∈ (P.fieldsOf t).toList → f.name ≠ "_" ∧ pv P (underlying f.type) = some (.int .i64) ∧ ∃ n, pv P (part f.type xs f.offset) = some (.int .i64 n)) :
    aBin P .neq t x y (.agg xs) (.agg xs) = some (.bool false) := by
  show aBinSlow P .neq t x y (.agg xs) (.agg xs) = _
  unfold aBinSlow
  rw [hc]
  simp only [Bool.and_self]
  have : pv P (do eqGuard .neq t x y (.agg xs) (.agg xs); binOp .neq t (.agg xs) (.agg xs)) = some (.bool false) := by
    rw [pvb, hg]
    show pv P (binOp .neq t (.agg xs) (.agg xs)) = _
    rw [show binOp .neq t (.agg xs) (.agg xs) = (do pure (.bool (!(← Op.equalIn (9999 + 1) t (.agg xs) (.agg xs)))) : Sem Value) from rfl]
    rw [pvb, pv_equalIn_struct 9999 t xs xs hu hp, show (9999 : Nat) = 9998 + 1 from rfl, pv_eqFields_refl 9998 xs _ hf]
    rfl
  rw [this]
  rfl
end
end Go.Ax
namespace Go.Ax
set_option linter.unusedSimpArgs false
set_option linter.unusedVariables false
section
variable {P : Program} {tab : Tab}
/-- A call whose result is known, and that leaves all as it was. -/
theorem callB_iff {g : FuncId} {args : List Value} {s s0 : St} {v0 : Value} (h : CallA P tab g args s fun v s' => v = v0 ∧ s' = s0) (Q : Value → St → Prop) : @CallB P tab g args s ⟨Q⟩ ↔ Q v0 s0 := by
  constructor
  · rintro ⟨n, v, s1, e, q⟩
    obtain ⟨m, v', s1', e', rfl, rfl⟩ := h
    have a := callF_le (exec_le (Nat.le_max_left n m)) e
    have b := callF_le (exec_le (Nat.le_max_right n m)) e'
    rw [a] at b
    cases b
    exact q
  · intro q
    refine callB h ?_
    rintro v s' ⟨rfl, rfl⟩
    exact q
theorem mi_of {t : TypeId} {d : TypeDesc} (h : pv P (underlying t) = some d) (hd : ∀ m, d ≠ .interface m) (v : Value) (s : St) (Q : Value → St → Prop) : @MiB P t v s ⟨Q⟩ ↔ Q (.iface t v) s := by
  unfold MiB
  rw [h]
  cases d <;> first | exact runA_ret _ _ _ | exact absurd rfl (hd _)
end
end Go.Ax
namespace Go.Ax
set_option linter.unusedSimpArgs false
set_option linter.unusedVariables false
/-- A call that comes to true from a state that the world bears out. -/
theorem calls_from {P : Program} {tab : Tab} (ht : TabOk P tab) (hmix : P.follows .mixedOrders = true) {g : FuncId} {args args' : List Value} {s : St} {m : Map} {w : World} (R : Rel w.heap.size w m s.h w)
    (hfree : ∀ i, s.n ≤ i → m i = none) (hargs : VRs m args args') (h : CallA P tab g args s fun v _ => v = .bool true) : Calls P g ⟨args'⟩ w fun e w' => e = .returned (.bool true) ∧ RowKit.Below w.heap.size w w' := by
  obtain ⟨fuel, v, s1, hr, rfl⟩ := h
  have hex := exec_sound (B := w.heap.size) (w0 := w) ht (fun n hn => draw_sound ht hmix (exec_n n) (exec_loc n) (call_sound ht (exec_n n) hn)) fuel
  have hc := call_sound ht (exec_n fuel) hex
  refine (hc g args args' s _ s1 m w hr hargs R (fun i h1 _ => hfree i h1)).mono fun e w' he => ?_
  obtain ⟨v', h1, m', h2, h3, h4, h5⟩ := he
  cases h4
  exact ⟨h1, h3.below⟩
end Go.Ax
