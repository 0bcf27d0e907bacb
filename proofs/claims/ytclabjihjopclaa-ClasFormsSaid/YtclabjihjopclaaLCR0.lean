/- The statement ClasForms, by computing: some cases. -/
import Derived.Test.YtclabjihjopclaaPart2
namespace Go.Proofs.Ytclabjihjopclaa.Ax
open Go.RowKit
set_option linter.unusedVariables false
theorem clasf_run0 (which : Int) : runM Try.prog Z_all (axG Try.prog Z_all extW 100 13) [(94, 0, 1)] 100 19 [.c (.int .i64 which)] = ([(Int.tmod (bits .and .i64 which 255) 9, 0, 1)], true) := by kernel_rfl
theorem clasf_run1 (which : Int) : runM Try.prog Z_all (axG Try.prog Z_all extW 100 13) [(94, 1, 1)] 100 19 [.c (.int .i64 which)] = ([(Int.tmod (bits .and .i64 which 255) 9, 1, 1)], true) := by kernel_rfl
theorem clasf_run2 (which : Int) : runM Try.prog Z_all (axG Try.prog Z_all extW 100 13) [(94, 2, 1)] 100 19 [.c (.int .i64 which)] = ([(Int.tmod (bits .and .i64 which 255) 9, 2, 1)], true) := by kernel_rfl
end Go.Proofs.Ytclabjihjopclaa.Ax
