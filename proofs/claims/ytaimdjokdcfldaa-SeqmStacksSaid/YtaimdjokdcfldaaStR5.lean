import Derived.Test.YtaimdjokdcfldaaSq1
namespace Go.Proofs.Ytaimdjokdcfldaa.Ax
open Go.RowKit
set_option linter.unusedVariables false
theorem st_run5 (calls rets : Int) : runM Try.prog Zs (axG Try.prog Zs extE 400 12) [(13, 5, 1), (15, 0, 8)] 400 4 [.c (.int .i64 calls), .c (.int .i64 rets)] = ([(bits .and .i64 calls 7, 5, 1), (bits .and .i64 rets 7, 0, 8)], true) := by kernel_rfl
end Go.Proofs.Ytaimdjokdcfldaa.Ax
