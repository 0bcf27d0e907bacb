import Derived.Test.YtcmmlcpfnbfloaaDoorShR0
import Derived.Test.YtcmmlcpfnbfloaaDoorShR1
import Derived.Test.YtcmmlcpfnbfloaaDoorShR2
import Derived.Test.YtcmmlcpfnbfloaaDoorShR3
namespace Go.Proofs.YtcmmlcpfnbfloaaDoor.Ax
open Go.RowKit
set_option linter.unusedVariables false
theorem shforms_part0 (which : Int) (h : (0 : Int) ≤ Int.tmod (bits .and .i64 which 255) 15 ∧ Int.tmod (bits .and .i64 which 255) 15 < (0 : Int) + (4 : Int)) : ACalls Tryd.prog 3 [.c (.int .i64 which)] (.c (.d (.bool true))) := by
  refine runM_sound (Z0_ok _) (call := axG Tryd.prog Z0 extT 400 12) (fun g xs r h => axG_sound (Z0_ok _) extT_sound 12 h) (each := [(36, 0, 4)]) (n := 400) ?_
  rw [shforms_run0]
  refine ⟨fun p hp => ?_, rfl⟩
  simp only [List.mem_singleton] at hp
  subst hp
  exact h
theorem shforms_part4 (which : Int) (h : (4 : Int) ≤ Int.tmod (bits .and .i64 which 255) 15 ∧ Int.tmod (bits .and .i64 which 255) 15 < (4 : Int) + (4 : Int)) : ACalls Tryd.prog 3 [.c (.int .i64 which)] (.c (.d (.bool true))) := by
  refine runM_sound (Z0_ok _) (call := axG Tryd.prog Z0 extT 400 12) (fun g xs r h => axG_sound (Z0_ok _) extT_sound 12 h) (each := [(36, 4, 4)]) (n := 400) ?_
  rw [shforms_run4]
  refine ⟨fun p hp => ?_, rfl⟩
  simp only [List.mem_singleton] at hp
  subst hp
  exact h
theorem shforms_part8 (which : Int) (h : (8 : Int) ≤ Int.tmod (bits .and .i64 which 255) 15 ∧ Int.tmod (bits .and .i64 which 255) 15 < (8 : Int) + (4 : Int)) : ACalls Tryd.prog 3 [.c (.int .i64 which)] (.c (.d (.bool true))) := by
  refine runM_sound (Z0_ok _) (call := axG Tryd.prog Z0 extT 400 12) (fun g xs r h => axG_sound (Z0_ok _) extT_sound 12 h) (each := [(36, 8, 4)]) (n := 400) ?_
  rw [shforms_run8]
  refine ⟨fun p hp => ?_, rfl⟩
  simp only [List.mem_singleton] at hp
  subst hp
  exact h
theorem shforms_part12 (which : Int) (h : (12 : Int) ≤ Int.tmod (bits .and .i64 which 255) 15 ∧ Int.tmod (bits .and .i64 which 255) 15 < (12 : Int) + (3 : Int)) : ACalls Tryd.prog 3 [.c (.int .i64 which)] (.c (.d (.bool true))) := by
  refine runM_sound (Z0_ok _) (call := axG Tryd.prog Z0 extT 400 12) (fun g xs r h => axG_sound (Z0_ok _) extT_sound 12 h) (each := [(36, 12, 3)]) (n := 400) ?_
  rw [shforms_run12]
  refine ⟨fun p hp => ?_, rfl⟩
  simp only [List.mem_singleton] at hp
  subst hp
  exact h
theorem shforms_calls (which : Int) : ACalls Tryd.prog 3 [.c (.int .i64 which)] (.c (.d (.bool true))) := by
  have hv : 0 ≤ Int.tmod (bits .and .i64 which 255) 15 ∧ Int.tmod (bits .and .i64 which 255) 15 < 15 := by
    rw [and255, Int.tmod_eq_emod_of_nonneg (by omega)]; constructor <;> omega
  generalize hx : Int.tmod (bits .and .i64 which 255) 15 = x at hv
  by_cases h0 : x < 4
  · exact shforms_part0 which (by rw [hx]; omega)
  by_cases h4 : x < 8
  · exact shforms_part4 which (by rw [hx]; omega)
  by_cases h8 : x < 12
  · exact shforms_part8 which (by rw [hx]; omega)
  exact shforms_part12 which (by rw [hx]; omega)
end Go.Proofs.YtcmmlcpfnbfloaaDoor.Ax
