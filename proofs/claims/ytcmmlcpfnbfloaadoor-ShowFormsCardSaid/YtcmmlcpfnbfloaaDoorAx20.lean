/- A function's code, compiled once; its loops by number. -/
import Derived.Test.YtcmmlcpfnbfloaaDoorAx19
namespace Go.Proofs.YtcmmlcpfnbfloaaDoor.Ax
open Go.RowKit
set_option linter.unusedVariables false

def firstId : Code → Nat
  | .region id _ _ => id
  | .seq x _ => firstId x
  | .cond _ x _ => firstId x
  | .block _ x => firstId x
  | .loop x => firstId x
  | _ => 0
def keepBy (tbl : List (Nat × List Nat)) (x : Code) : List Nat := (getL tbl (firstId x)).getD []

def newTagsOp (off : Nat) (i : AInst) : List Nat :=
  let t := i.tag
  match i.op with
  | .alloc _ | .box _ | .bslice _ _ _ | .mkslice _ _ _ _ | .append _ _ _ _ => [t]
  | .call _ _ => [t, t + 1, t + 2]
  | _ => []
def tagsIn (off : Nat) : ACode → List Nat
  | .region is => is.flatMap (newTagsOp off)
  | .draw is _ => is.flatMap (newTagsOp off)
  | .seq x y => tagsIn off x ++ tagsIn off y
  | .cond _ x y => tagsIn off x ++ tagsIn off y
  | .block _ x => tagsIn off x
  | .loop x => tagsIn off x
  | .forget _ x => tagsIn off x
  | .inl _ _ x _ _ => tagsIn off x
  | _ => []
def hasLoop : ACode → Bool
  | .seq x y => hasLoop x || hasLoop y
  | .cond _ x y => hasLoop x || hasLoop y
  | .block _ x => hasLoop x
  | .loop _ => true
  | .forget _ x => hasLoop x
  | .inl _ _ x _ _ => hasLoop x
  | _ => false

structure FnA where
  n : Nat
  code : ACode
  rs : List RVar
  tags : List Nat

def fnA (P : Program) (fn : Func) (nargs : Nat) (tbl : List (Nat × List Nat)) : Option FnA :=
  match fn.body with
  | some c => match compC P Z0 (nargs + (fn.ntmps - nargs)) (keepBy tbl) c, mapO (compR P) fn.results.toList with
    | some ac, some rs => some ⟨fn.ntmps, ac, rs, if hasLoop ac then tagsIn 0 ac else []⟩
    | _, _ => none
  | none => none

def mkS (n : Nat) (l : List (Nat × AV)) : List AV := (List.range n).map fun i => (getL l i).getD (.c .undef)

/-- A function's loops: their bodies, and what is to be done behind. -/
def loopsOf : ACode → List Fr → List (ACode × List Fr)
  | .seq x y, F => loopsOf x (.s y :: F) ++ loopsOf y F
  | .cond _ x y, F => loopsOf x F ++ loopsOf y F
  | .block id x, F => loopsOf x (.b id :: F)
  | .loop (.forget keep x), F => (x, .l (.forget keep x) :: F) :: loopsOf x (.l (.forget keep x) :: F)
  | _, _ => []
def FnA.loop (a : FnA) (j : Nat) : ACode × List Fr := (loopsOf a.code []).getD j (.skip, [])

/-- The tree of a function that is called; and of a loop of it, at its head. -/
def FnA.start (a : FnA) (sp : Sp) (m : Nat) (as : List A) : VC := goW sp a.rs m (.run a.code) (startA a.n a.tags as) []
def FnA.at_ (a : FnA) (j : Nat) (s : St) : VC := .cfg (a.loop j).1 s (a.loop j).2
def FnA.round (a : FnA) (sp : Sp) (m : Nat) (j : Nat) (s : St) : VC := goW sp a.rs m (.run (a.loop j).1) s (a.loop j).2

section
variable {P : Program} {sp : Sp}

theorem acalls_of (hsp : sp.sound P) {f : FuncId} {fn : Func} {tbl : List (Nat × List Nat)} {a : FnA} {nargs : Nat} (hf : P.funcs[f]? = some fn) (ha : fnA P fn nargs tbl = some a) {as : List A} (hl : as.length = nargs) {m : Nat} {r : RR}
    (h : (a.start sp m as).holds sp.cx a.rs fun x => x = r) : ACalls P f as r := by
  unfold fnA at ha
  split at ha
  · rename_i c hb
    split at ha
    · rename_i ac rs hc hr
      simp only [Option.some.injEq] at ha; subst ha
      refine acalls_go (K := keepBy tbl) hsp hf hb ?_ hr h
      simp only [startA, List.length_append, List.length_map, List.length_replicate, hl]
      exact hc
    · cases ha
  · cases ha

theorem at_of_round (hsp : sp.sound P) {a : FnA} {j m : Nat} {s : St} {R : RR → Prop} (h : (a.round sp m j s).holds sp.cx a.rs R) : (a.at_ j s).holds sp.cx a.rs R := goW_sound hsp _ _ _ _ h
end

end Go.Proofs.YtcmmlcpfnbfloaaDoor.Ax
