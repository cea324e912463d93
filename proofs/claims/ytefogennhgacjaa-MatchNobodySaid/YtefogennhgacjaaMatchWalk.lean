/- The walk of MatchNobody: the executor runs it to true at an argument of eight integers of any worth. -/
import Derived.Test.YtefogennhgacjaaTab
namespace Go.Proofs.Ytefogennhgacjaa.Mn
open Go.RowKit
set_option maxRecDepth 1000000
theorem ran (a0 a1 a2 a3 a4 a5 a6 a7 : Int) : Go.Ax.isTrue (Go.Ax.runF Try.prog Try.tab 3000 3 [.agg ⟨[.int .i64 a0, .int .i64 a1, .int .i64 a2, .int .i64 a3, .int .i64 a4, .int .i64 a5, .int .i64 a6, .int .i64 a7]⟩]) = true := by kernel_rfl
theorem walk (a0 a1 a2 a3 a4 a5 a6 a7 : Int) (w : World) : Calls Try.prog 3 #[.agg #[.int .i64 a0, .int .i64 a1, .int .i64 a2, .int .i64 a3, .int .i64 a4, .int .i64 a5, .int .i64 a6, .int .i64 a7]] w fun e w' => e = .returned (.bool true) ∧ Below w.heap.size w w' :=
  Go.Ax.calls_true Try.tabOk Try.mixed (ran a0 a1 a2 a3 a4 a5 a6 a7) (.cons (.agg (.cons (.int _ _) (.cons (.int _ _) (.cons (.int _ _) (.cons (.int _ _) (.cons (.int _ _) (.cons (.int _ _) (.cons (.int _ _) (.cons (.int _ _) .nil))))))))) .nil) w
end Go.Proofs.Ytefogennhgacjaa.Mn
