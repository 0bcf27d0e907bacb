/- The statement ClasForms: its contract. -/
import Derived.Test.YtclabjihjopclaaLCR0
import Derived.Test.YtclabjihjopclaaLCR1
import Derived.Test.YtclabjihjopclaaLCR2
import Derived.Test.YtclabjihjopclaaLCR3
namespace Go.Proofs.Ytclabjihjopclaa.Ax
open Go.RowKit
set_option linter.unusedVariables false
theorem clasf_part0 (which : Int) (h : (0 : Int) ≤ Int.tmod (bits .and .i64 which 255) 9 ∧ Int.tmod (bits .and .i64 which 255) 9 < (0 : Int) + (1 : Int)) : ACalls Try.prog 19 [.c (.int .i64 which)] (.c (.d (.bool true))) := by
  refine runM_sound Z_all_ok (call := axG Try.prog Z_all extW 100 13) (fun g xs r h => axG_sound Z_all_ok extW_sound bkAll_ok 13 h) (each := [(94, 0, 1)]) (n := 100) ?_ bkAll_ok
  rw [clasf_run0]
  refine ⟨fun p hp => ?_, rfl⟩
  simp only [List.mem_singleton] at hp
  subst hp
  exact h
theorem clasf_part1 (which : Int) (h : (1 : Int) ≤ Int.tmod (bits .and .i64 which 255) 9 ∧ Int.tmod (bits .and .i64 which 255) 9 < (1 : Int) + (1 : Int)) : ACalls Try.prog 19 [.c (.int .i64 which)] (.c (.d (.bool true))) := by
  refine runM_sound Z_all_ok (call := axG Try.prog Z_all extW 100 13) (fun g xs r h => axG_sound Z_all_ok extW_sound bkAll_ok 13 h) (each := [(94, 1, 1)]) (n := 100) ?_ bkAll_ok
  rw [clasf_run1]
  refine ⟨fun p hp => ?_, rfl⟩
  simp only [List.mem_singleton] at hp
  subst hp
  exact h
theorem clasf_part2 (which : Int) (h : (2 : Int) ≤ Int.tmod (bits .and .i64 which 255) 9 ∧ Int.tmod (bits .and .i64 which 255) 9 < (2 : Int) + (1 : Int)) : ACalls Try.prog 19 [.c (.int .i64 which)] (.c (.d (.bool true))) := by
  refine runM_sound Z_all_ok (call := axG Try.prog Z_all extW 100 13) (fun g xs r h => axG_sound Z_all_ok extW_sound bkAll_ok 13 h) (each := [(94, 2, 1)]) (n := 100) ?_ bkAll_ok
  rw [clasf_run2]
  refine ⟨fun p hp => ?_, rfl⟩
  simp only [List.mem_singleton] at hp
  subst hp
  exact h
theorem clasf_part3 (which : Int) (h : (3 : Int) ≤ Int.tmod (bits .and .i64 which 255) 9 ∧ Int.tmod (bits .and .i64 which 255) 9 < (3 : Int) + (1 : Int)) : ACalls Try.prog 19 [.c (.int .i64 which)] (.c (.d (.bool true))) := by
  refine runM_sound Z_all_ok (call := axG Try.prog Z_all extV 100 13) (fun g xs r h => axG_sound Z_all_ok extV_sound bkAll_ok 13 h) (each := [(94, 3, 1)]) (n := 100) ?_ bkAll_ok
  rw [clasf_run3]
  refine ⟨fun p hp => ?_, rfl⟩
  simp only [List.mem_singleton] at hp
  subst hp
  exact h
theorem clasf_part4 (which : Int) (h : (4 : Int) ≤ Int.tmod (bits .and .i64 which 255) 9 ∧ Int.tmod (bits .and .i64 which 255) 9 < (4 : Int) + (1 : Int)) : ACalls Try.prog 19 [.c (.int .i64 which)] (.c (.d (.bool true))) := by
  refine runM_sound Z_all_ok (call := axG Try.prog Z_all extW 100 13) (fun g xs r h => axG_sound Z_all_ok extW_sound bkAll_ok 13 h) (each := [(94, 4, 1)]) (n := 100) ?_ bkAll_ok
  rw [clasf_run4]
  refine ⟨fun p hp => ?_, rfl⟩
  simp only [List.mem_singleton] at hp
  subst hp
  exact h
theorem clasf_part5 (which : Int) (h : (5 : Int) ≤ Int.tmod (bits .and .i64 which 255) 9 ∧ Int.tmod (bits .and .i64 which 255) 9 < (5 : Int) + (1 : Int)) : ACalls Try.prog 19 [.c (.int .i64 which)] (.c (.d (.bool true))) := by
  refine runM_sound Z_all_ok (call := axG Try.prog Z_all extW 100 13) (fun g xs r h => axG_sound Z_all_ok extW_sound bkAll_ok 13 h) (each := [(94, 5, 1)]) (n := 100) ?_ bkAll_ok
  rw [clasf_run5]
  refine ⟨fun p hp => ?_, rfl⟩
  simp only [List.mem_singleton] at hp
  subst hp
  exact h
theorem clasf_part6 (which : Int) (h : (6 : Int) ≤ Int.tmod (bits .and .i64 which 255) 9 ∧ Int.tmod (bits .and .i64 which 255) 9 < (6 : Int) + (1 : Int)) : ACalls Try.prog 19 [.c (.int .i64 which)] (.c (.d (.bool true))) := by
  refine runM_sound Z_all_ok (call := axG Try.prog Z_all extW 100 13) (fun g xs r h => axG_sound Z_all_ok extW_sound bkAll_ok 13 h) (each := [(94, 6, 1)]) (n := 100) ?_ bkAll_ok
  rw [clasf_run6]
  refine ⟨fun p hp => ?_, rfl⟩
  simp only [List.mem_singleton] at hp
  subst hp
  exact h
theorem clasf_part7 (which : Int) (h : (7 : Int) ≤ Int.tmod (bits .and .i64 which 255) 9 ∧ Int.tmod (bits .and .i64 which 255) 9 < (7 : Int) + (1 : Int)) : ACalls Try.prog 19 [.c (.int .i64 which)] (.c (.d (.bool true))) := by
  refine runM_sound Z_all_ok (call := axG Try.prog Z_all extW 100 13) (fun g xs r h => axG_sound Z_all_ok extW_sound bkAll_ok 13 h) (each := [(94, 7, 1)]) (n := 100) ?_ bkAll_ok
  rw [clasf_run7]
  refine ⟨fun p hp => ?_, rfl⟩
  simp only [List.mem_singleton] at hp
  subst hp
  exact h
theorem clasf_part8 (which : Int) (h : (8 : Int) ≤ Int.tmod (bits .and .i64 which 255) 9 ∧ Int.tmod (bits .and .i64 which 255) 9 < (8 : Int) + (1 : Int)) : ACalls Try.prog 19 [.c (.int .i64 which)] (.c (.d (.bool true))) := by
  refine runM_sound Z_all_ok (call := axG Try.prog Z_all extW 100 13) (fun g xs r h => axG_sound Z_all_ok extW_sound bkAll_ok 13 h) (each := [(94, 8, 1)]) (n := 100) ?_ bkAll_ok
  rw [clasf_run8]
  refine ⟨fun p hp => ?_, rfl⟩
  simp only [List.mem_singleton] at hp
  subst hp
  exact h
theorem clasForms_calls (which : Int) : ACalls Try.prog 19 [.c (.int .i64 which)] (.c (.d (.bool true))) := by
  have hv : 0 ≤ Int.tmod (bits .and .i64 which 255) 9 ∧ Int.tmod (bits .and .i64 which 255) 9 < 9 := by
    rw [and255, Int.tmod_eq_emod_of_nonneg (by omega)]; constructor <;> omega
  generalize hx : Int.tmod (bits .and .i64 which 255) 9 = x at hv
  by_cases h0 : x < 1
  · exact clasf_part0 which (by rw [hx]; omega)
  by_cases h1 : x < 2
  · exact clasf_part1 which (by rw [hx]; omega)
  by_cases h2 : x < 3
  · exact clasf_part2 which (by rw [hx]; omega)
  by_cases h3 : x < 4
  · exact clasf_part3 which (by rw [hx]; omega)
  by_cases h4 : x < 5
  · exact clasf_part4 which (by rw [hx]; omega)
  by_cases h5 : x < 6
  · exact clasf_part5 which (by rw [hx]; omega)
  by_cases h6 : x < 7
  · exact clasf_part6 which (by rw [hx]; omega)
  by_cases h7 : x < 8
  · exact clasf_part7 which (by rw [hx]; omega)
  exact clasf_part8 which (by rw [hx]; omega)
end Go.Proofs.Ytclabjihjopclaa.Ax
