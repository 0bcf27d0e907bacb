/- Every kind has the number that the document gives it: each pair of the table is equal, and word.Ok tells 1 from 0. No condition. -/
import Derived.Test.YtogihgkicpbafaaPNamesNumbersx1
namespace Go.Proofs.Ytogihgkicpbafaa.Pure
open Go.RowKit Go.Proofs.Ytogihgkicpbafaa.PNamesNumbers Go.Proofs.YtogihgkicpbafaaW.PrintWords Go.Proofs.YtogihgkicpbafaaW.PrintLast Go.Proofs.YtogihgkicpbafaaW.PrintMore


theorem NamesNumbers : augurylaw0_NamesNumbers.Pure := ⟨50, by decide +kernel⟩

end Go.Proofs.Ytogihgkicpbafaa.Pure
