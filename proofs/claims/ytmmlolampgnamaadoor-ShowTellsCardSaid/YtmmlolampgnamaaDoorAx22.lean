/- Functions at arguments that are told to the last number: run by computing, with all that they call. -/
import Derived.Test.YtmmlolampgnamaaDoorAx21
namespace Go.Proofs.YtmmlolampgnamaaDoor.Ax
open Go.RowKit
set_option linter.unusedVariables false

def runF (P : Program) (call : FuncId → List A → Option RR) (n : Nat) (f : FuncId) (xs : List A) : Option RR :=
  match P.funcs[f]? with
  | some fn => match fn.body with
    | some c => match compC P Z0 (xs.length + (fn.ntmps - xs.length)) (fun _ => List.range fn.ntmps) c, mapO (compR P) fn.results.toList with
      | some ac, some rs => match acode { off := 0, call := call, calli := fun _ _ _ => none, inl := fun _ => false, fz := roT ac } n ac (startA fn.ntmps [] xs) with
        | some (.exit _, _) => none
        | some (_, s) => if (fn.name == "runtime.NumGoroutine") = false then resA rs s else none
        | none => none
      | _, _ => none
    | none => none
  | none => none

def axN (P : Program) (ext : FuncId → List A → Option RR) (n : Nat) : Nat → FuncId → List A → Option RR
  | 0, f, xs => ext f xs
  | d + 1, f, xs => match ext f xs with
    | some r => some r
    | none => runF P (axN P ext n d) n f xs

theorem runF_sound {P : Program} {call : FuncId → List A → Option RR} (hcall : ∀ g xs r, call g xs = some r → ACalls P g xs r ∧ Enters P g) {n : Nat} {f : FuncId} {xs : List A} {r : RR} (h : runF P call n f xs = some r) : ACalls P f xs r ∧ Enters P f := by
  unfold runF at h
  split at h
  · rename_i fn hf
    split at h
    · rename_i c hb
      split at h
      · rename_i ac rs hc hr
        split at h
        · cases h
        · rename_i e s hne hrun
          split at h
          · rename_i hname
            refine ⟨calls_fits (Z0_ok P) (K := fun _ => List.range fn.ntmps) (cx := { off := 0, call := call, calli := fun _ _ _ => none, inl := fun _ => false, fz := roT ac }) ⟨hcall, fun g sh h => (by cases h)⟩ hf hb ?_ hr hrun (fun id he => ?_) h, fn, hf, hname, by rw [hb]; rfl⟩
            · simp only [startA, List.length_append, List.length_map, List.length_replicate]
              exact hc
            · exact hne id he
          · cases h
        · cases h
      · cases h
    · cases h
  · cases h

theorem axN_sound {P : Program} {ext : FuncId → List A → Option RR} (hext : ∀ g xs r, ext g xs = some r → ACalls P g xs r ∧ Enters P g) {n : Nat} : ∀ (d : Nat) {f : FuncId} {xs : List A} {r : RR}, axN P ext n d f xs = some r → ACalls P f xs r ∧ Enters P f
  | 0, _, _, _, h => hext _ _ _ h
  | d + 1, f, xs, r, h => by
    simp only [axN] at h
    split at h
    · rename_i r' hr
      simp only [Option.some.injEq] at h; subst h
      exact hext _ _ _ hr
    · exact runF_sound (fun g xs r hg => axN_sound hext d hg) h

end Go.Proofs.YtmmlolampgnamaaDoor.Ax
