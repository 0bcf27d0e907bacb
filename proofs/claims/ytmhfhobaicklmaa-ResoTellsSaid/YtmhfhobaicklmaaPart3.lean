/- Several texts in one, in their order. -/
import Derived.Test.YtmhfhobaicklmaaPart2
import Derived.Test.YtmhfhobaicklmaaAxBk
section
/- Ranges over slices.Backward; awake of layers 10, 11, 19, 23. -/
namespace Go.Proofs.Ytmhfhobaicklmaa.Ax
open Go.RowKit
set_option linter.unusedVariables false
set_option linter.unusedSimpArgs false
theorem backE_ok : BackOK Try.prog 87 (some 8) :=
  backward_ok (fn := Try.f87) (t := 34) (u := 43) (by kernel_rfl) rfl rfl rfl (by kernel_rfl) (by kernel_rfl) (by kernel_rfl) (by kernel_rfl) ⟨rfl, rfl, rfl⟩ ⟨rfl, rfl, rfl⟩ ⟨rfl, rfl, rfl⟩ ⟨rfl, rfl, rfl⟩ ⟨rfl, rfl, rfl⟩ ⟨rfl, rfl, rfl⟩ ⟨rfl, rfl, rfl⟩ ⟨rfl, rfl, rfl⟩ ⟨rfl, rfl, rfl⟩ ⟨rfl, rfl, rfl⟩ ⟨rfl, rfl, rfl⟩ ⟨rfl, rfl, rfl⟩ ⟨rfl, rfl, rfl⟩ ⟨rfl, rfl, rfl⟩ ⟨rfl, rfl, rfl⟩ ⟨rfl, rfl, rfl⟩ ⟨rfl, rfl, rfl⟩
def kdE : List Kd := [.int .i64, .int .i64, .int .i64, .int .i64, .int .i64, .bool, .bool, .bool]
/-- seqm.put, seqm.touch and pair.fill are run in their callers' places. -/
def c_awake10 : FT Unit := ⟨18, fun _ => [], rd0, fun _ => True, fun _ => rb true, false, fun _ => rfl⟩
end Go.Proofs.Ytmhfhobaicklmaa.Ax
end

section
/- What leaks without any guess: clas.Differ; how two runs go side by side. -/
namespace Go.Proofs.Ytmhfhobaicklmaa.Ax
open Go.RowKit
set_option linter.unusedVariables false
set_option linter.unusedSimpArgs false
end Go.Proofs.Ytmhfhobaicklmaa.Ax
end
