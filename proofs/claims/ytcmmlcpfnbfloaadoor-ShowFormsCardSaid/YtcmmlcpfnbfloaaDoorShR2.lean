import Derived.Test.YtcmmlcpfnbfloaaDoorSh1
namespace Go.Proofs.YtcmmlcpfnbfloaaDoor.Ax
open Go.RowKit
set_option linter.unusedVariables false
theorem shforms_run8 (which : Int) : runM Tryd.prog Z0 (axG Tryd.prog Z0 extT 400 12) [(36, 8, 4)] 400 3 [.c (.int .i64 which)] = ([(Int.tmod (bits .and .i64 which 255) 15, 8, 4)], true) := by kernel_rfl
end Go.Proofs.YtcmmlcpfnbfloaaDoor.Ax
