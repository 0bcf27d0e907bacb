import Derived.Test.YtaimdjokdcfldaaSq1
namespace Go.Proofs.Ytaimdjokdcfldaa.Ax
open Go.RowKit
set_option linter.unusedVariables false
theorem sqforms_run0 (which : Int) : runM Try.prog Zs (axG Try.prog Zs extE 400 12) [(114, 0, 4)] 400 3 [.c (.int .i64 which)] = ([(Int.tmod (bits .and .i64 which 255) 17, 0, 4)], true) := by kernel_rfl
theorem sqforms_run4 (which : Int) : runM Try.prog Zs (axG Try.prog Zs extE 400 12) [(114, 4, 4)] 400 3 [.c (.int .i64 which)] = ([(Int.tmod (bits .and .i64 which 255) 17, 4, 4)], true) := by kernel_rfl
theorem sqforms_run8 (which : Int) : runM Try.prog Zs (axG Try.prog Zs extE 400 12) [(114, 8, 4)] 400 3 [.c (.int .i64 which)] = ([(Int.tmod (bits .and .i64 which 255) 17, 8, 4)], true) := by kernel_rfl
theorem sqforms_run12 (which : Int) : runM Try.prog Zs (axG Try.prog Zs extE 400 12) [(114, 12, 4)] 400 3 [.c (.int .i64 which)] = ([(Int.tmod (bits .and .i64 which 255) 17, 12, 4)], true) := by kernel_rfl
theorem sqforms_run16 (which : Int) : runM Try.prog Zs (axG Try.prog Zs extE 400 12) [(114, 16, 1)] 400 3 [.c (.int .i64 which)] = ([(Int.tmod (bits .and .i64 which 255) 17, 16, 1)], true) := by kernel_rfl
end Go.Proofs.Ytaimdjokdcfldaa.Ax
