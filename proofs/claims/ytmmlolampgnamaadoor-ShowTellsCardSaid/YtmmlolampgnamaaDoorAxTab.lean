/- Tables of what is known of functions. -/
import Derived.Test.YtmmlolampgnamaaDoorAxLaw
import Derived.Test.YtmmlolampgnamaaDoorAxBits
namespace Go.Proofs.YtmmlolampgnamaaDoor.Ax
open Go.RowKit
set_option linter.unusedVariables false
structure FE where
  f : FuncId
  pre : List A → Prop
  ans : List A → RR
  ref : Bool
  gen : List A → Option Gen := fun _ => none
  gok : ∀ as g, gen as = some g → g.sh g.v = ans as := by intro as g h; cases h
def look : List FE → FuncId → Option FE
  | [], _ => none
  | e :: L, f => if e.f = f then some e else look L f
def spT (L : List FE) (bk : FuncId → Option (Option Nat × List Kd) := fun _ => none) (fz : List Nat := []) : Sp := ⟨fun f xs => match look L f with
  | some e => e.pre xs
  | none => False, fun f xs => match look L f with
  | some e => e.ans xs
  | none => .c .nil, fun f _ => match look L f with
  | some e => e.ref
  | none => false, 0, bk, fz, fun f xs => match look L f with
  | some e => e.gen xs
  | none => none, by
    intro f xs g h
    cases hl : look L f with
    | none => rw [hl] at h; cases h
    | some e => rw [hl] at h; exact e.gok xs g h⟩
def FE.Good (P : Program) (e : FE) : Prop := ∀ xs, e.pre xs → ACalls P e.f xs (e.ans xs) ∧ Enters P e.f ∧ rrRef (e.ans xs) = e.ref
theorem look_some : ∀ {L : List FE} {f : FuncId} {e : FE}, look L f = some e → e ∈ L ∧ e.f = f
  | [], _, _, h => by cases h
  | x :: L, f, e, h => by
    simp only [look] at h
    split at h
    · rename_i hx; cases h; exact ⟨List.mem_cons_self, hx⟩
    · obtain ⟨h1, h2⟩ := look_some h
      exact ⟨List.mem_cons_of_mem _ h1, h2⟩
theorem spT_sound {P : Program} {L : List FE} {bk : FuncId → Option (Option Nat × List Kd)} {fz : List Nat} (h : ∀ e ∈ L, e.Good P) (hbk : BksOK P bk := by intro g sh h; cases h) : (spT L bk fz).sound P := by
  refine ⟨?_, hbk⟩
  intro f xs hp
  simp only [spT] at hp ⊢
  cases hl : look L f with
  | none => rw [hl] at hp; exact hp.elim
  | some e =>
    rw [hl] at hp
    obtain ⟨h1, rfl⟩ := look_some hl
    exact h e h1 xs hp
end Go.Proofs.YtmmlolampgnamaaDoor.Ax
