/- The walk of AuditNames: the executor runs it to true at every integer: nought to nine, ten and more, below nought. -/
import Derived.Test.YtefogennhgacjaaGreatTab
namespace Go.Proofs.YtefogennhgacjaaGreat.An
open Go.RowKit
set_option maxRecDepth 1000000
def RunsAt (n : Int) : Prop := Go.Ax.isTrue (Go.Ax.runF Tryz.prog Tryz.tab 3000 4 [.int .i64 n]) = true
theorem ranBig (k : Nat) : RunsAt (.ofNat (k + 10)) := by unfold RunsAt; kernel_rfl
theorem ranNeg (k : Nat) : RunsAt (.negSucc k) := by unfold RunsAt; kernel_rfl
theorem ran0 : RunsAt (.ofNat 0) := by unfold RunsAt; kernel_rfl
theorem ran1 : RunsAt (.ofNat 1) := by unfold RunsAt; kernel_rfl
theorem ran2 : RunsAt (.ofNat 2) := by unfold RunsAt; kernel_rfl
theorem ran3 : RunsAt (.ofNat 3) := by unfold RunsAt; kernel_rfl
theorem ran4 : RunsAt (.ofNat 4) := by unfold RunsAt; kernel_rfl
theorem ran5 : RunsAt (.ofNat 5) := by unfold RunsAt; kernel_rfl
theorem ran6 : RunsAt (.ofNat 6) := by unfold RunsAt; kernel_rfl
theorem ran7 : RunsAt (.ofNat 7) := by unfold RunsAt; kernel_rfl
theorem ran8 : RunsAt (.ofNat 8) := by unfold RunsAt; kernel_rfl
theorem ran9 : RunsAt (.ofNat 9) := by unfold RunsAt; kernel_rfl
theorem ran : ∀ n : Int, RunsAt n
  | .ofNat 0 => ran0
  | .ofNat 1 => ran1
  | .ofNat 2 => ran2
  | .ofNat 3 => ran3
  | .ofNat 4 => ran4
  | .ofNat 5 => ran5
  | .ofNat 6 => ran6
  | .ofNat 7 => ran7
  | .ofNat 8 => ran8
  | .ofNat 9 => ran9
  | .ofNat (k + 10) => ranBig k
  | .negSucc k => ranNeg k
theorem walk (n : Int) (w : World) : Calls Tryz.prog 4 #[.int .i64 n] w fun e w' => e = .returned (.bool true) ∧ Below w.heap.size w w' :=
  Go.Ax.calls_true Tryz.tabOk Tryz.mixed (ran n) (.cons (.int _ _) .nil) w
end Go.Proofs.YtefogennhgacjaaGreat.An
