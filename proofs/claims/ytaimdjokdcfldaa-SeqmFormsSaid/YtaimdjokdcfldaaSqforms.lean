import Derived.Test.YtaimdjokdcfldaaSqformsR0
namespace Go.Proofs.Ytaimdjokdcfldaa.Ax
open Go.RowKit
set_option linter.unusedVariables false
theorem sqforms_part0 (which : Int) (h : (0 : Int) ≤ Int.tmod (bits .and .i64 which 255) 17 ∧ Int.tmod (bits .and .i64 which 255) 17 < (0 : Int) + (4 : Int)) : ACalls Try.prog 3 [.c (.int .i64 which)] (.c (.d (.bool true))) := by
  refine runM_sound Zs_ok (call := axG Try.prog Zs extE 400 12) (fun g xs r h => axG_sound Zs_ok extE_sound 12 h) (each := [(114, 0, 4)]) (n := 400) ?_
  rw [sqforms_run0]
  refine ⟨fun p hp => ?_, rfl⟩
  simp only [List.mem_singleton] at hp
  subst hp
  exact h
theorem sqforms_part4 (which : Int) (h : (4 : Int) ≤ Int.tmod (bits .and .i64 which 255) 17 ∧ Int.tmod (bits .and .i64 which 255) 17 < (4 : Int) + (4 : Int)) : ACalls Try.prog 3 [.c (.int .i64 which)] (.c (.d (.bool true))) := by
  refine runM_sound Zs_ok (call := axG Try.prog Zs extE 400 12) (fun g xs r h => axG_sound Zs_ok extE_sound 12 h) (each := [(114, 4, 4)]) (n := 400) ?_
  rw [sqforms_run4]
  refine ⟨fun p hp => ?_, rfl⟩
  simp only [List.mem_singleton] at hp
  subst hp
  exact h
theorem sqforms_part8 (which : Int) (h : (8 : Int) ≤ Int.tmod (bits .and .i64 which 255) 17 ∧ Int.tmod (bits .and .i64 which 255) 17 < (8 : Int) + (4 : Int)) : ACalls Try.prog 3 [.c (.int .i64 which)] (.c (.d (.bool true))) := by
  refine runM_sound Zs_ok (call := axG Try.prog Zs extE 400 12) (fun g xs r h => axG_sound Zs_ok extE_sound 12 h) (each := [(114, 8, 4)]) (n := 400) ?_
  rw [sqforms_run8]
  refine ⟨fun p hp => ?_, rfl⟩
  simp only [List.mem_singleton] at hp
  subst hp
  exact h
theorem sqforms_part12 (which : Int) (h : (12 : Int) ≤ Int.tmod (bits .and .i64 which 255) 17 ∧ Int.tmod (bits .and .i64 which 255) 17 < (12 : Int) + (4 : Int)) : ACalls Try.prog 3 [.c (.int .i64 which)] (.c (.d (.bool true))) := by
  refine runM_sound Zs_ok (call := axG Try.prog Zs extE 400 12) (fun g xs r h => axG_sound Zs_ok extE_sound 12 h) (each := [(114, 12, 4)]) (n := 400) ?_
  rw [sqforms_run12]
  refine ⟨fun p hp => ?_, rfl⟩
  simp only [List.mem_singleton] at hp
  subst hp
  exact h
theorem sqforms_part16 (which : Int) (h : (16 : Int) ≤ Int.tmod (bits .and .i64 which 255) 17 ∧ Int.tmod (bits .and .i64 which 255) 17 < (16 : Int) + (1 : Int)) : ACalls Try.prog 3 [.c (.int .i64 which)] (.c (.d (.bool true))) := by
  refine runM_sound Zs_ok (call := axG Try.prog Zs extE 400 12) (fun g xs r h => axG_sound Zs_ok extE_sound 12 h) (each := [(114, 16, 1)]) (n := 400) ?_
  rw [sqforms_run16]
  refine ⟨fun p hp => ?_, rfl⟩
  simp only [List.mem_singleton] at hp
  subst hp
  exact h
theorem sqforms_calls (which : Int) : ACalls Try.prog 3 [.c (.int .i64 which)] (.c (.d (.bool true))) := by
  have hv : 0 ≤ Int.tmod (bits .and .i64 which 255) 17 ∧ Int.tmod (bits .and .i64 which 255) 17 < 17 := by
    rw [and255, Int.tmod_eq_emod_of_nonneg (by omega)]; constructor <;> omega
  generalize hx : Int.tmod (bits .and .i64 which 255) 17 = x at hv
  by_cases h0 : x < 4
  · exact sqforms_part0 which (by rw [hx]; omega)
  by_cases h4 : x < 8
  · exact sqforms_part4 which (by rw [hx]; omega)
  by_cases h8 : x < 12
  · exact sqforms_part8 which (by rw [hx]; omega)
  by_cases h12 : x < 16
  · exact sqforms_part12 which (by rw [hx]; omega)
  exact sqforms_part16 which (by rw [hx]; omega)
end Go.Proofs.Ytaimdjokdcfldaa.Ax
