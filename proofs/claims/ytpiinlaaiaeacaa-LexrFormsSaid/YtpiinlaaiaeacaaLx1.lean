import Derived.Test.YtpiinlaaiaeacaaShelf
import Derived.Test.YtpiinlaaiaeacaaAx24
import Derived.Test.YtpiinlaaiaeacaaAxLaw
namespace Go.Proofs.Ytpiinlaaiaeacaa.Ax
open Go.RowKit
set_option linter.unusedVariables false
def extC (f : FuncId) (xs : List A) : Option RR := match f, xs with
  | 24, [.c (.str s), .c (.str t)] => if s.size < 4294967281 then some (.c (.d (.bool (Lib.contains s.data.toList t.data.toList)))) else none
  | _, _ => none
theorem extC_sound : ∀ g xs r, extC g xs = some r → ACalls Try.prog g xs r ∧ Enters Try.prog g := by
  intro g xs r h
  unfold extC at h
  split at h
  · rename_i s t
    split at h
    · rename_i hs
      simp only [Option.some.injEq] at h; subst h
      refine ⟨?_, ⟨Try.f24, by kernel_rfl, by decide +kernel, by kernel_rfl⟩⟩
      intro w vals ok hok hgl hargs
      obtain ⟨m, hm⟩ := hgl (0, .i64) (by simp [globs])
      cases vals with
      | nil => exact hargs.elim
      | cons v vs =>
        obtain ⟨h1, h2⟩ := hargs
        cases vs with
        | nil => exact h2.elim
        | cons v2 vs =>
          obtain ⟨h2, h3⟩ := h2
          cases vs with
          | cons _ _ => exact h3.elim
          | nil =>
            simp only [RA, RD] at h1 h2
            subst h1 h2
            refine (Try.strings_Contains s t m w hs hm).mono fun e w' h => ?_
            obtain ⟨rfl, rfl⟩ := h
            exact ⟨_, ok, [], rfl, Below.refl _ _, hok, fun b h => .inl h, ⟨rfl, by simp only [RD]⟩, List.nodup_nil, fun b h => by cases h⟩
    · cases h
  · cases h
theorem awake4 : ACalls Try.prog 9 [] (.c (.d (.bool true))) ∧ Enters Try.prog 9 :=
  axG_sound extC_sound (n := 400) 12 (by kernel_rfl)
end Go.Proofs.Ytpiinlaaiaeacaa.Ax
