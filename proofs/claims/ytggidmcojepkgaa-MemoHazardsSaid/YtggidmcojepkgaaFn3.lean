import Derived.Test.YtggidmcojepkgaaFn2
import Derived.Test.YtggidmcojepkgaaAx22
namespace Go.Proofs.Ytggidmcojepkgaa.Ax
open Go.RowKit
set_option linter.unusedVariables false
def extE (f : FuncId) (xs : List A) : Option RR := match f, xs with
  | 21, [.c (.sl rows)] => if (rows.all fun r => r.length == 8) = true ∧ rows.length ≤ 1000000000 then some (.c (.new 8 rows)) else none
  | _, _ => none
theorem clone_any {rows : List (List D)} (h1 : (rows.all fun r => r.length == 8) = true) (h2 : rows.length ≤ 1000000000) : ACalls Try.prog 21 [.c (.sl rows)] (.c (.new 8 rows)) :=
  clone_calls (f := 21) (fn := Try.f21) (t := 35) (u := 38) (bytes := 48) (z := [.d (.int .i64 0), .d (.int .i64 0), .d (.int .i64 0), .d (.int .i64 0), .d (.int .i64 0), .d (.bool false), .d (.bool false), .d (.bool false)]) (by kernel_rfl) rfl rfl (by kernel_rfl) (by kernel_rfl) (by kernel_rfl) (by kernel_rfl) rfl rfl rfl (by kernel_rfl) (by kernel_rfl) (fun _ => rfl) h1 (by omega)
theorem extE_sound : ∀ g xs r, extE g xs = some r → ACalls Try.prog g xs r ∧ Enters Try.prog g := by
  intro g xs r h
  unfold extE at h
  split at h
  · split at h
    · rename_i hc
      simp only [Option.some.injEq] at h; subst h
      exact ⟨clone_any hc.1 hc.2, ⟨Try.f21, by kernel_rfl, by decide +kernel, by kernel_rfl⟩⟩
    · cases h
  · cases h
theorem awake11 : ACalls Try.prog 8 [] (.c (.d (.bool true))) ∧ Enters Try.prog 8 :=
  axN_sound extE_sound (n := 60) 8 (by kernel_rfl)
theorem good8 : Good 8 := by
  intro xs hp
  unfold pre0 at hp
  split at hp
  · rename_i heq; cases heq
  · rename_i heq; cases heq
  · rename_i heq; cases heq
  · rename_i heq; cases heq
  · exact ⟨awake11.1, awake11.2, rfl⟩
  · exact hp.elim
end Go.Proofs.Ytggidmcojepkgaa.Ax
