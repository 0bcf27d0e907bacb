/- Clones; and what computing may take from outside. -/
import Derived.Test.YtclabjihjopclaaF5
import Derived.Test.YtclabjihjopclaaAx22
import Derived.Test.YtclabjihjopclaaAx24
namespace Go.Proofs.Ytclabjihjopclaa.Ax
open Go.RowKit
set_option linter.unusedVariables false
set_option linter.unusedSimpArgs false
/-- A list alone: beside (), so that it is not taken apart where the trees are printed. -/
def rdL {α : Type} [Row α] : List A → List α × Unit
  | [.c (.sl r)] => (listOf α r, ())
  | _ => ([], ())
theorem clone_int {rows : List (List D)} (h1 : (rows.all fun r => r.length == 1) = true) (h2 : rows.length ≤ 1000000000) : ACalls Try.prog 127 [.c (.sl rows)] (.c (.new 1 rows)) :=
  clone_calls (f := 127) (fn := Try.f127) (t := 22) (u := 3) (bytes := 8) (z := [.d (.int .i64 0)]) (by kernel_rfl) rfl rfl (by kernel_rfl) (by kernel_rfl) (by kernel_rfl) (by kernel_rfl) rfl rfl rfl (by kernel_rfl) (by kernel_rfl) (fun _ => rfl) h1 (by omega)
theorem clone_ent {rows : List (List D)} (h1 : (rows.all fun r => r.length == 8) = true) (h2 : rows.length ≤ 1000000000) : ACalls Try.prog 122 [.c (.sl rows)] (.c (.new 8 rows)) :=
  clone_calls (f := 122) (fn := Try.f122) (t := 34) (u := 43) (bytes := 48) (z := [.d (.int .i64 0), .d (.int .i64 0), .d (.int .i64 0), .d (.int .i64 0), .d (.int .i64 0), .d (.bool false), .d (.bool false), .d (.bool false)]) (by kernel_rfl) rfl rfl (by kernel_rfl) (by kernel_rfl) (by kernel_rfl) (by kernel_rfl) rfl rfl rfl (by kernel_rfl) (by kernel_rfl) (fun _ => rfl) h1 (by omega)
def rnewI (l : List Int) : RR := .c (.new 1 (rowsOn l))
def rnewE (l : List Ent) : RR := .c (.new 8 (rowsOn l))
def c_cloneI : FT (List Int × Unit) := ⟨127, fun l => [al l.1], rdL, fun l => l.1.length ≤ 1000000000, fun l => rnewI l.1, false, fun l => by simp [al, rdL]⟩
theorem c_cloneI_good : c_cloneI.fe.Good Try.prog := by
  refine FT.good c_cloneI ⟨Try.f127, by kernel_rfl, by decide +kernel, by kernel_rfl⟩ (fun l => by simp [c_cloneI, rnewI, rrRef]) fun l hl => clone_int (rowsOn_all _ _ rfl) (by rw [rowsOn_length]; exact hl)
def c_cloneE : FT (List Ent × Unit) := ⟨122, fun l => [.c (.sl (rowsOn l.1))], rdL, fun l => l.1.length ≤ 1000000000, fun l => rnewE l.1, false, fun l => by simp [rdL]⟩
theorem c_cloneE_good : c_cloneE.fe.Good Try.prog := by
  refine FT.good c_cloneE ⟨Try.f122, by kernel_rfl, by decide +kernel, by kernel_rfl⟩ (fun l => by simp [c_cloneE, rnewE, rrRef]) fun l hl => clone_ent (rowsOn_all _ _ rfl) (by rw [rowsOn_length]; exact hl)
def extE (f : FuncId) (xs : List A) : Option RR := match f, xs with
  | 127, [.c (.sl rows)] => if (rows.all fun r => r.length == 1) = true ∧ rows.length ≤ 1000000000 then some (.c (.new 1 rows)) else none
  | 122, [.c (.sl rows)] => if (rows.all fun r => r.length == 8) = true ∧ rows.length ≤ 1000000000 then some (.c (.new 8 rows)) else none
  | _, _ => none
theorem extE_sound : ∀ g xs r, extE g xs = some r → ACalls Try.prog g xs r ∧ Enters Try.prog g := by
  intro g xs r h
  unfold extE at h
  split at h
  · split at h
    · rename_i hc
      simp only [Option.some.injEq] at h; subst h
      exact ⟨clone_int hc.1 hc.2, ⟨Try.f127, by kernel_rfl, by decide +kernel, by kernel_rfl⟩⟩
    · cases h
  · split at h
    · rename_i hc
      simp only [Option.some.injEq] at h; subst h
      exact ⟨clone_ent hc.1 hc.2, ⟨Try.f122, by kernel_rfl, by decide +kernel, by kernel_rfl⟩⟩
    · cases h
  · cases h
def rd0 : List A → Unit := fun _ => ()
theorem awake7 : ACalls Try.prog 41 [] (.c (.d (.bool true))) ∧ Enters Try.prog 41 :=
  axN_sound extE_sound (n := 60) 8 (by kernel_rfl)
def c_awake7 : FT Unit := ⟨41, fun _ => [], rd0, fun _ => True, fun _ => rb true, false, fun _ => rfl⟩
theorem c_awake7_good : c_awake7.fe.Good Try.prog := FT.good c_awake7 awake7.2 (fun _ => rfl) fun _ _ => awake7.1
end Go.Proofs.Ytclabjihjopclaa.Ax
