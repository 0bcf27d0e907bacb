import Derived.Test.YtaimdjokdcfldaaAx24
import Derived.Test.YtaimdjokdcfldaaAxLaw
import Derived.Test.YtaimdjokdcfldaaAxBits
import Derived.Test.YtaimdjokdcfldaaProg
namespace Go.Proofs.Ytaimdjokdcfldaa.Ax
open Go.RowKit
set_option linter.unusedVariables false
def extE (f : FuncId) (xs : List A) : Option RR := match f, xs with
  | 66, [.c (.sl rows)] => if (rows.all fun r => r.length == 1) = true ∧ rows.length ≤ 1000000000 then some (.c (.new 1 rows)) else none
  | _, _ => none
theorem clone_any {rows : List (List D)} (h1 : (rows.all fun r => r.length == 1) = true) (h2 : rows.length ≤ 1000000000) : ACalls Try.prog 66 [.c (.sl rows)] (.c (.new 1 rows)) :=
  clone_calls (f := 66) (fn := Try.f66) (t := 40) (u := 3) (bytes := 8) (z := [.d (.int .i64 0)]) (by kernel_rfl) rfl rfl (by kernel_rfl) (by kernel_rfl) (by kernel_rfl) (by kernel_rfl) rfl rfl rfl (by kernel_rfl) (by kernel_rfl) (fun _ => rfl) h1 (by omega)
theorem extE_sound : ∀ g xs r, extE g xs = some r → ACalls Try.prog g xs r ∧ Enters Try.prog g := by
  intro g xs r h
  unfold extE at h
  split at h
  · split at h
    · rename_i hc
      simp only [Option.some.injEq] at h; subst h
      exact ⟨clone_any hc.1 hc.2, ⟨Try.f66, by kernel_rfl, by decide +kernel, by kernel_rfl⟩⟩
    · cases h
  · cases h
/-- seqm.put and seqm.touch are run in their callers' places. -/
noncomputable def Zt : Zo := mkZ Try.prog 200000 [(37, ⟨300000, fun _ => none⟩)]
noncomputable def Zs : Zo := mkZ Try.prog 0 [(37, ⟨100000, fun _ => none⟩), (41, Zt)]
theorem Zs_ok : ZOK Try.prog 2 Zs := zok_mk fun p hp => by
  simp only [List.mem_cons, List.not_mem_nil, or_false] at hp
  rcases hp with rfl | rfl
  · exact zok_none _ _ _
  · exact zok_mk fun p hp => by
      simp only [List.mem_cons, List.not_mem_nil, or_false] at hp
      subst hp
      exact zok_none _ _ _
end Go.Proofs.Ytaimdjokdcfldaa.Ax
