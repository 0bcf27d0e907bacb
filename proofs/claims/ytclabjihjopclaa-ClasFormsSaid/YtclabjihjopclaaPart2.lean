/- Several texts in one, in their order. -/
import Derived.Test.YtclabjihjopclaaF14
import Derived.Test.YtclabjihjopclaaAxBk
section
/- Ranges over slices.Backward; awake of layers 10, 11, 19, 23. -/
namespace Go.Proofs.Ytclabjihjopclaa.Ax
open Go.RowKit
set_option linter.unusedVariables false
set_option linter.unusedSimpArgs false
theorem backI_ok : BackOK Try.prog 141 none :=
  backward_ok (fn := Try.f141) (t := 22) (u := 3) (by kernel_rfl) rfl rfl rfl (by kernel_rfl) (by kernel_rfl) (by kernel_rfl) (by kernel_rfl) ⟨rfl, rfl, rfl⟩ ⟨rfl, rfl, rfl⟩ ⟨rfl, rfl, rfl⟩ ⟨rfl, rfl, rfl⟩ ⟨rfl, rfl, rfl⟩ ⟨rfl, rfl, rfl⟩ ⟨rfl, rfl, rfl⟩ ⟨rfl, rfl, rfl⟩ ⟨rfl, rfl, rfl⟩ ⟨rfl, rfl, rfl⟩ ⟨rfl, rfl, rfl⟩ ⟨rfl, rfl, rfl⟩ ⟨rfl, rfl, rfl⟩ ⟨rfl, rfl, rfl⟩ ⟨rfl, rfl, rfl⟩ ⟨rfl, rfl, rfl⟩ ⟨rfl, rfl, rfl⟩
theorem backE_ok : BackOK Try.prog 123 (some 8) :=
  backward_ok (fn := Try.f123) (t := 34) (u := 43) (by kernel_rfl) rfl rfl rfl (by kernel_rfl) (by kernel_rfl) (by kernel_rfl) (by kernel_rfl) ⟨rfl, rfl, rfl⟩ ⟨rfl, rfl, rfl⟩ ⟨rfl, rfl, rfl⟩ ⟨rfl, rfl, rfl⟩ ⟨rfl, rfl, rfl⟩ ⟨rfl, rfl, rfl⟩ ⟨rfl, rfl, rfl⟩ ⟨rfl, rfl, rfl⟩ ⟨rfl, rfl, rfl⟩ ⟨rfl, rfl, rfl⟩ ⟨rfl, rfl, rfl⟩ ⟨rfl, rfl, rfl⟩ ⟨rfl, rfl, rfl⟩ ⟨rfl, rfl, rfl⟩ ⟨rfl, rfl, rfl⟩ ⟨rfl, rfl, rfl⟩ ⟨rfl, rfl, rfl⟩
def kdE : List Kd := [.int .i64, .int .i64, .int .i64, .int .i64, .int .i64, .bool, .bool, .bool]
def bkAll (g : FuncId) : Option (Option Nat × List Kd) := if g = 141 then some (none, [.int .i64]) else if g = 123 then some (some 8, kdE) else none
theorem bkAll_ok : BksOK Try.prog bkAll := by
  intro g sh h
  unfold bkAll at h
  split at h
  · rename_i hg; subst hg; cases h
    exact ⟨backI_ok, ⟨Try.f141, by kernel_rfl, by decide +kernel, by kernel_rfl⟩⟩
  · split at h
    · rename_i hg; subst hg; cases h
      exact ⟨backE_ok, ⟨Try.f123, by kernel_rfl, by decide +kernel, by kernel_rfl⟩⟩
    · cases h
/-- seqm.put, seqm.touch and pair.fill are run in their callers' places. -/
noncomputable def Z_all : Zo := mkZ Try.prog 0 [(101, ⟨100000, fun _ => none, fun _ => none⟩), (105, Z_t), (95, ⟨400000, fun _ => none, fun _ => none⟩)] bkAll
theorem Z_all_ok : ZOK Try.prog 2 Z_all := zok_mk fun p hp => by
  simp only [List.mem_cons, List.not_mem_nil, or_false] at hp
  rcases hp with rfl | rfl | rfl
  · exact zok_none _ _ _
  · exact zok_mk fun p hp => by
      simp only [List.mem_cons, List.not_mem_nil, or_false] at hp
      subst hp
      exact zok_none _ _ _
  · exact zok_none _ _ _
theorem awake10 : ACalls Try.prog 30 [] (.c (.d (.bool true))) ∧ Enters Try.prog 30 :=
  axG_sound (n := 60) Z_all_ok extE_sound bkAll_ok 8 (by kernel_rfl)
theorem awake11 : ACalls Try.prog 27 [] (.c (.d (.bool true))) ∧ Enters Try.prog 27 :=
  axG_sound (n := 60) Z_all_ok extE_sound bkAll_ok 8 (by kernel_rfl)
theorem awake19 : ACalls Try.prog 46 [] (.c (.d (.bool true))) ∧ Enters Try.prog 46 :=
  axG_sound (n := 60) Z_all_ok extE_sound bkAll_ok 8 (by kernel_rfl)
theorem awake23 : ACalls Try.prog 65 [] (.c (.d (.bool true))) ∧ Enters Try.prog 65 :=
  axG_sound (n := 60) Z_all_ok extE_sound bkAll_ok 13 (by kernel_rfl)
def c_awake10 : FT Unit := ⟨30, fun _ => [], rd0, fun _ => True, fun _ => rb true, false, fun _ => rfl⟩
theorem c_awake10_good : c_awake10.fe.Good Try.prog := FT.good c_awake10 awake10.2 (fun _ => rfl) fun _ _ => awake10.1
def c_awake11 : FT Unit := ⟨27, fun _ => [], rd0, fun _ => True, fun _ => rb true, false, fun _ => rfl⟩
theorem c_awake11_good : c_awake11.fe.Good Try.prog := FT.good c_awake11 awake11.2 (fun _ => rfl) fun _ _ => awake11.1
def c_awake19 : FT Unit := ⟨46, fun _ => [], rd0, fun _ => True, fun _ => rb true, false, fun _ => rfl⟩
theorem c_awake19_good : c_awake19.fe.Good Try.prog := FT.good c_awake19 awake19.2 (fun _ => rfl) fun _ _ => awake19.1
def c_awake23 : FT Unit := ⟨65, fun _ => [], rd0, fun _ => True, fun _ => rb true, false, fun _ => rfl⟩
theorem c_awake23_good : c_awake23.fe.Good Try.prog := FT.good c_awake23 awake23.2 (fun _ => rfl) fun _ _ => awake23.1
end Go.Proofs.Ytclabjihjopclaa.Ax
end

section
/- Contracts from outside for the statement ClasForms. -/
namespace Go.Proofs.Ytclabjihjopclaa.Ax
open Go.RowKit
set_option linter.unusedVariables false
def extW (f : FuncId) (xs : List A) : Option RR := match f, xs with
  | 81, [.c (.int .i64 w), .c (.int .i64 n)] => some (ri (maskS w n))
  | 125, [.c (.int .i64 w)] => some (ri (sizeS w))
  | 130, [.c (.int .i64 w), .c (.int .i64 op), .c (.int .i64 a), .c (.int .i64 b)] => some (rib (doS w op a b))
  | 65, [] => some (.c (.d (.bool true)))
  | f, xs => extE f xs
theorem extW_sound : ∀ g xs r, extW g xs = some r → ACalls Try.prog g xs r ∧ Enters Try.prog g := by
  intro g xs r h
  unfold extW at h
  split at h
  · cases h; exact ⟨(c_wMask_good [ai _, ai _] ⟨rfl, trivial⟩).1, (c_wMask_good [ai 0, ai 0] ⟨rfl, trivial⟩).2.1⟩
  · cases h; exact ⟨(c_wSize_good [ai _] ⟨rfl, trivial⟩).1, (c_wSize_good [ai 0] ⟨rfl, trivial⟩).2.1⟩
  · cases h; exact ⟨(c_wDo_good [ai _, ai _, ai _, ai _] ⟨rfl, trivial⟩).1, (c_wDo_good [ai 0, ai 0, ai 0, ai 0] ⟨rfl, trivial⟩).2.1⟩
  · cases h; exact awake23
  · exact extE_sound _ _ _ h
end Go.Proofs.Ytclabjihjopclaa.Ax
end
