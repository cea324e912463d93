/- Quotes: calls whose results are known: the chapter's example, and sorting nothing. -/
import Derived.Test.YtefogennhgacjaaGreatTab
import Derived.Test.YtefogennhgacjaaGreatAxWpe
namespace Go.Proofs.Qt
open Go Go.Ax Go.Proofs
set_option maxRecDepth 1000000

theorem calls_closed {P : Program} {tab : Tab} (ht : TabOk P tab) (hmix : P.follows .mixedOrders = true) {fuel : Nat} {g : FuncId} {args : List Value} {v : Value} (h : (runF P tab fuel g args).map (·.1) = some v) (hv : closed v = true)
    (hargs : closed.closedL args = true) (w : World) : Calls P g ⟨args⟩ w fun e w' => e = .returned v ∧ RowKit.Below w.heap.size w w' := by
  cases hr : runF P tab fuel g args with
  | none => rw [hr] at h; cases h
  | some p =>
    obtain ⟨v1, s⟩ := p
    rw [hr] at h
    simp at h
    subst h
    refine (runF_sound ht hmix hr (VRs.of_closed _ _ hargs) w).mono fun e w' he => ?_
    obtain ⟨v', h1, ⟨m, h2⟩, h3⟩ := he
    have := VR.eq_of_closed hv h2
    subst this
    exact ⟨h1, h3⟩

theorem ran17 : (runF Tryz.prog Tryz.tab0 3000 17 []).map (·.1) = some (.bool true) := by kernel_rfl
theorem ran32 : (runF Tryz.prog Tryz.tab0 300 32 [.slice none 0 0, .func (.func 33) ⟨[]⟩ ⟨[]⟩]).map (·.1) = some (.tuple ⟨[]⟩) := by kernel_rfl
theorem ran36 : (runF Tryz.prog Tryz.tab0 300 36 [.slice none 0 0]).map (·.1) = some (.slice none 0 0) := by kernel_rfl

def kn (g : FuncId) (args : List Value) : Option Value := match Nat.beq g 17, args with
  | true, [] => some (.bool true)
  | true, _ :: _ => none
  | false, args => match Nat.beq g 32, args with
    | true, [.slice none 0 0, .func (.func 33) ⟨[]⟩ ⟨[]⟩] => some (.tuple ⟨[]⟩)
    | true, _ => none
    | false, args => match Nat.beq g 36, args with
      | true, [.slice none 0 0] => some (.slice none 0 0)
      | _, _ => none
end Go.Proofs.Qt
namespace Go.Proofs
open Go Go.Ax Qt
noncomputable def Tryz.tab : Tab := ⟨Tryz.tabT, Qt.kn⟩
theorem Tryz.tabOk : TabOk Tryz.prog Tryz.tab := by
  refine ⟨Tryz.tab0Ok.1, fun g args v h => ?_⟩
  replace h : Qt.kn g args = some v := h
  unfold Qt.kn at h
  split at h
  · rename_i hg
    cases h
    have hg := Nat.eq_of_beq_eq_true hg
    subst hg
    exact ⟨rfl, rfl, fun a w => Tryz.call17 a w, fun w => calls_closed Tryz.tab0Ok Tryz.mixed ran17 rfl rfl w⟩
  · cases h
  · split at h
    · rename_i hg
      cases h
      have hg := Nat.eq_of_beq_eq_true hg
      subst hg
      exact ⟨rfl, rfl, fun a w => Tryz.call32 a w, fun w => calls_closed Tryz.tab0Ok Tryz.mixed ran32 rfl rfl w⟩
    · cases h
    · split at h
      · rename_i hg
        cases h
        have hg := Nat.eq_of_beq_eq_true hg
        subst hg
        exact ⟨rfl, rfl, fun a w => Tryz.call36 a w, fun w => calls_closed Tryz.tab0Ok Tryz.mixed ran36 rfl rfl w⟩
      · cases h
end Go.Proofs
