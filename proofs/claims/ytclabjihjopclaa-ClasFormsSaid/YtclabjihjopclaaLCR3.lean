/- The statement ClasForms, by computing: some cases. -/
import Derived.Test.YtclabjihjopclaaPart3
namespace Go.Proofs.Ytclabjihjopclaa.Ax
open Go.RowKit
set_option linter.unusedVariables false
theorem clasf_run3 (which : Int) : runM Try.prog Z_all (axG Try.prog Z_all extV 100 13) [(94, 3, 1)] 100 19 [.c (.int .i64 which)] = ([(Int.tmod (bits .and .i64 which 255) 9, 3, 1)], true) := by kernel_rfl
end Go.Proofs.Ytclabjihjopclaa.Ax
