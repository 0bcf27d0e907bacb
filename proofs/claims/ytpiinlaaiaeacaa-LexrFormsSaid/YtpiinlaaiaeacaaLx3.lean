import Derived.Test.YtpiinlaaiaeacaaLx1
import Derived.Test.YtpiinlaaiaeacaaAxBits
namespace Go.Proofs.Ytpiinlaaiaeacaa.Ax
open Go.RowKit
set_option linter.unusedVariables false
theorem forms_run (which : Int) : runM Try.prog (axG Try.prog extC 400 12) [(39, 25)] 400 3 [.c (.int .i64 which)] = ([(Int.tmod (bits .and .i64 which 255) 25, 25)], true) := by kernel_rfl
theorem forms_calls (which : Int) : ACalls Try.prog 3 [.c (.int .i64 which)] (.c (.d (.bool true))) := by
  refine runM_sound (call := axG Try.prog extC 400 12) (fun g xs r h => axG_sound extC_sound 12 h) (each := [(39, 25)]) (n := 400) ?_
  rw [forms_run]
  refine ⟨fun p hp => ?_, rfl⟩
  simp only [List.mem_singleton] at hp
  subst hp
  rw [and255, Int.tmod_eq_emod_of_nonneg (by omega)]
  constructor <;> simp <;> omega
end Go.Proofs.Ytpiinlaaiaeacaa.Ax
