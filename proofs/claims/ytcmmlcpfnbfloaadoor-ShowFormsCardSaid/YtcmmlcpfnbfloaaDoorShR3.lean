import Derived.Test.YtcmmlcpfnbfloaaDoorSh1
namespace Go.Proofs.YtcmmlcpfnbfloaaDoor.Ax
open Go.RowKit
set_option linter.unusedVariables false
theorem shforms_run12 (which : Int) : runM Tryd.prog Z0 (axG Tryd.prog Z0 extT 400 12) [(36, 12, 3)] 400 3 [.c (.int .i64 which)] = ([(Int.tmod (bits .and .i64 which 255) 15, 12, 3)], true) := by kernel_rfl
end Go.Proofs.YtcmmlcpfnbfloaaDoor.Ax
