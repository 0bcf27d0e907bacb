import Derived.Test.YtaimdjokdcfldaaStR0
import Derived.Test.YtaimdjokdcfldaaStR1
import Derived.Test.YtaimdjokdcfldaaStR2
import Derived.Test.YtaimdjokdcfldaaStR3
import Derived.Test.YtaimdjokdcfldaaStR4
import Derived.Test.YtaimdjokdcfldaaStR5
import Derived.Test.YtaimdjokdcfldaaStR6
import Derived.Test.YtaimdjokdcfldaaStR7
import Derived.Test.YtaimdjokdcfldaaAxBits
namespace Go.Proofs.Ytaimdjokdcfldaa.Ax
open Go.RowKit
set_option linter.unusedVariables false
theorem st_part0 (calls rets : Int) (h : bits .and .i64 calls 7 = 0) : ACalls Try.prog 4 [.c (.int .i64 calls), .c (.int .i64 rets)] (.c (.d (.bool true))) := by
  refine runM_sound Zs_ok (call := axG Try.prog Zs extE 400 12) (fun g xs r h => axG_sound Zs_ok extE_sound 12 h) (each := [(13, 0, 1), (15, 0, 8)]) (n := 400) ?_
  rw [st_run0]
  refine ⟨fun p hp => ?_, rfl⟩
  simp only [List.mem_cons, List.not_mem_nil, or_false] at hp
  rcases hp with rfl | rfl
  · rw [h]; simp
  · rw [and7]; constructor <;> simp <;> omega
theorem st_part1 (calls rets : Int) (h : bits .and .i64 calls 7 = 1) : ACalls Try.prog 4 [.c (.int .i64 calls), .c (.int .i64 rets)] (.c (.d (.bool true))) := by
  refine runM_sound Zs_ok (call := axG Try.prog Zs extE 400 12) (fun g xs r h => axG_sound Zs_ok extE_sound 12 h) (each := [(13, 1, 1), (15, 0, 8)]) (n := 400) ?_
  rw [st_run1]
  refine ⟨fun p hp => ?_, rfl⟩
  simp only [List.mem_cons, List.not_mem_nil, or_false] at hp
  rcases hp with rfl | rfl
  · rw [h]; simp
  · rw [and7]; constructor <;> simp <;> omega
theorem st_part2 (calls rets : Int) (h : bits .and .i64 calls 7 = 2) : ACalls Try.prog 4 [.c (.int .i64 calls), .c (.int .i64 rets)] (.c (.d (.bool true))) := by
  refine runM_sound Zs_ok (call := axG Try.prog Zs extE 400 12) (fun g xs r h => axG_sound Zs_ok extE_sound 12 h) (each := [(13, 2, 1), (15, 0, 8)]) (n := 400) ?_
  rw [st_run2]
  refine ⟨fun p hp => ?_, rfl⟩
  simp only [List.mem_cons, List.not_mem_nil, or_false] at hp
  rcases hp with rfl | rfl
  · rw [h]; simp
  · rw [and7]; constructor <;> simp <;> omega
theorem st_part3 (calls rets : Int) (h : bits .and .i64 calls 7 = 3) : ACalls Try.prog 4 [.c (.int .i64 calls), .c (.int .i64 rets)] (.c (.d (.bool true))) := by
  refine runM_sound Zs_ok (call := axG Try.prog Zs extE 400 12) (fun g xs r h => axG_sound Zs_ok extE_sound 12 h) (each := [(13, 3, 1), (15, 0, 8)]) (n := 400) ?_
  rw [st_run3]
  refine ⟨fun p hp => ?_, rfl⟩
  simp only [List.mem_cons, List.not_mem_nil, or_false] at hp
  rcases hp with rfl | rfl
  · rw [h]; simp
  · rw [and7]; constructor <;> simp <;> omega
theorem st_part4 (calls rets : Int) (h : bits .and .i64 calls 7 = 4) : ACalls Try.prog 4 [.c (.int .i64 calls), .c (.int .i64 rets)] (.c (.d (.bool true))) := by
  refine runM_sound Zs_ok (call := axG Try.prog Zs extE 400 12) (fun g xs r h => axG_sound Zs_ok extE_sound 12 h) (each := [(13, 4, 1), (15, 0, 8)]) (n := 400) ?_
  rw [st_run4]
  refine ⟨fun p hp => ?_, rfl⟩
  simp only [List.mem_cons, List.not_mem_nil, or_false] at hp
  rcases hp with rfl | rfl
  · rw [h]; simp
  · rw [and7]; constructor <;> simp <;> omega
theorem st_part5 (calls rets : Int) (h : bits .and .i64 calls 7 = 5) : ACalls Try.prog 4 [.c (.int .i64 calls), .c (.int .i64 rets)] (.c (.d (.bool true))) := by
  refine runM_sound Zs_ok (call := axG Try.prog Zs extE 400 12) (fun g xs r h => axG_sound Zs_ok extE_sound 12 h) (each := [(13, 5, 1), (15, 0, 8)]) (n := 400) ?_
  rw [st_run5]
  refine ⟨fun p hp => ?_, rfl⟩
  simp only [List.mem_cons, List.not_mem_nil, or_false] at hp
  rcases hp with rfl | rfl
  · rw [h]; simp
  · rw [and7]; constructor <;> simp <;> omega
theorem st_part6 (calls rets : Int) (h : bits .and .i64 calls 7 = 6) : ACalls Try.prog 4 [.c (.int .i64 calls), .c (.int .i64 rets)] (.c (.d (.bool true))) := by
  refine runM_sound Zs_ok (call := axG Try.prog Zs extE 400 12) (fun g xs r h => axG_sound Zs_ok extE_sound 12 h) (each := [(13, 6, 1), (15, 0, 8)]) (n := 400) ?_
  rw [st_run6]
  refine ⟨fun p hp => ?_, rfl⟩
  simp only [List.mem_cons, List.not_mem_nil, or_false] at hp
  rcases hp with rfl | rfl
  · rw [h]; simp
  · rw [and7]; constructor <;> simp <;> omega
theorem st_part7 (calls rets : Int) (h : bits .and .i64 calls 7 = 7) : ACalls Try.prog 4 [.c (.int .i64 calls), .c (.int .i64 rets)] (.c (.d (.bool true))) := by
  refine runM_sound Zs_ok (call := axG Try.prog Zs extE 400 12) (fun g xs r h => axG_sound Zs_ok extE_sound 12 h) (each := [(13, 7, 1), (15, 0, 8)]) (n := 400) ?_
  rw [st_run7]
  refine ⟨fun p hp => ?_, rfl⟩
  simp only [List.mem_cons, List.not_mem_nil, or_false] at hp
  rcases hp with rfl | rfl
  · rw [h]; simp
  · rw [and7]; constructor <;> simp <;> omega
theorem stacks_calls (calls rets : Int) : ACalls Try.prog 4 [.c (.int .i64 calls), .c (.int .i64 rets)] (.c (.d (.bool true))) := by
  have hv : 0 ≤ bits .and .i64 calls 7 ∧ bits .and .i64 calls 7 < 8 := by rw [and7]; constructor <;> omega
  have : bits .and .i64 calls 7 = 0 ∨ bits .and .i64 calls 7 = 1 ∨ bits .and .i64 calls 7 = 2 ∨ bits .and .i64 calls 7 = 3 ∨ bits .and .i64 calls 7 = 4 ∨ bits .and .i64 calls 7 = 5 ∨ bits .and .i64 calls 7 = 6 ∨ bits .and .i64 calls 7 = 7 := by omega
  rcases this with h | h | h | h | h | h | h | h
  · exact st_part0 calls rets h
  · exact st_part1 calls rets h
  · exact st_part2 calls rets h
  · exact st_part3 calls rets h
  · exact st_part4 calls rets h
  · exact st_part5 calls rets h
  · exact st_part6 calls rets h
  · exact st_part7 calls rets h
end Go.Proofs.Ytaimdjokdcfldaa.Ax
