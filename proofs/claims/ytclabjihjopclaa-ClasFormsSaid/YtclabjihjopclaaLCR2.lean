/- The statement ClasForms, by computing: some cases. -/
import Derived.Test.YtclabjihjopclaaPart2
namespace Go.Proofs.Ytclabjihjopclaa.Ax
open Go.RowKit
set_option linter.unusedVariables false
theorem clasf_run6 (which : Int) : runM Try.prog Z_all (axG Try.prog Z_all extW 100 13) [(94, 6, 1)] 100 19 [.c (.int .i64 which)] = ([(Int.tmod (bits .and .i64 which 255) 9, 6, 1)], true) := by kernel_rfl
theorem clasf_run7 (which : Int) : runM Try.prog Z_all (axG Try.prog Z_all extW 100 13) [(94, 7, 1)] 100 19 [.c (.int .i64 which)] = ([(Int.tmod (bits .and .i64 which 255) 9, 7, 1)], true) := by kernel_rfl
theorem clasf_run8 (which : Int) : runM Try.prog Z_all (axG Try.prog Z_all extW 100 13) [(94, 8, 1)] 100 19 [.c (.int .i64 which)] = ([(Int.tmod (bits .and .i64 which 255) 9, 8, 1)], true) := by kernel_rfl
end Go.Proofs.Ytclabjihjopclaa.Ax
