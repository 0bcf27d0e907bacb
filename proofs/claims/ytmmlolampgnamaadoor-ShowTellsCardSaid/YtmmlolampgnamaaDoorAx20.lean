/- A function's code, compiled once; its loops by number. -/
import Derived.Test.YtmmlolampgnamaaDoorAx19
namespace Go.Proofs.YtmmlolampgnamaaDoor.Ax
open Go.RowKit
set_option linter.unusedVariables false

def firstId : Code → Nat
  | .region id _ _ => id
  | .seq x _ => firstId x
  | .cond _ x _ => firstId x
  | .block _ x => firstId x
  | .loop x => firstId x
  | _ => 0
def keepBy (tbl : List (Nat × List Nat)) (x : Code) : List Nat := match x with
  | .block id y => if id = cutMark then (getL tbl (cutMark + firstId y)).getD [] else (getL tbl (firstId y)).getD []
  | x => (getL tbl (firstId x)).getD []

/-! Variables that are never written, as a guess. -/
def instsOf : ACode → List AInst
  | .region is => is
  | .draw is _ => is
  | .seq x y => instsOf x ++ instsOf y
  | .cond _ x y => instsOf x ++ instsOf y
  | .block _ x => instsOf x
  | .loop x => instsOf x
  | .forget _ x => instsOf x
  | .back _ _ _ x y => instsOf x ++ instsOf y
  | _ => []
def inlUse : ACode → List Nat
  | .inl _ _ _ _ xs => xs.flatMap tempsOp
  | .seq x y => inlUse x ++ inlUse y
  | .cond _ x y => inlUse x ++ inlUse y
  | .block _ x => inlUse x
  | .loop x => inlUse x
  | .forget _ x => inlUse x
  | _ => []
def fromOf (i : AInst) : Option (Nat × Nat) := match i.dst, i.op with
  | some d, .faddr _ (.tmp t) => some (d, t)
  | some d, .iaddrA _ _ (.tmp t) _ => some (d, t)
  | some d, .nilchk (.tmp t) => some (d, t)
  | _, _ => none
def usesOf (i : AInst) : List Nat := match i.op with
  | .load _ _ _ => []
  | .faddr _ _ => []
  | .iaddrA _ _ _ j => tempsOp j
  | .nilchk _ => []
  | .sliceA _ _ _ _ _ => []
  | .len _ => []
  | op => op.temps
def rootOf (m : List (Nat × Nat)) : Nat → Nat → Nat
  | 0, t => t
  | n + 1, t => match getL m t with
    | some b => rootOf m n b
    | none => t
def roT (c : ACode) : List Nat :=
  let is := instsOf c
  let m := is.filterMap fromOf
  let esc := (is.flatMap usesOf ++ inlUse c).map (rootOf m 6)
  is.filterMap fun i => match i.op, i.dst with
    | .box _, some d => if esc.contains d then none else some i.tag
    | _, _ => none

structure FnA where
  n : Nat
  code : ACode
  rs : List RVar
  tags : List Nat

def fnA (P : Program) (fn : Func) (nargs : Nat) (tbl : List (Nat × List Nat)) : Option FnA :=
  match fn.body with
  | some c => match compC P Z0 (nargs + (fn.ntmps - nargs)) (keepBy tbl) c, mapO (compR P) fn.results.toList with
    | some ac, some rs => some ⟨fn.ntmps, ac, rs, []⟩
    | _, _ => none
  | none => none

def mkS (n : Nat) (l : List (Nat × AV)) : List AV := (List.range n).map fun i => (getL l i).getD (.c .undef)

/-- A function's loops: their bodies, and what is to be done behind. -/
def loopsOf : ACode → List Fr → List (ACode × List Fr)
  | .seq x y, F => loopsOf x (.s y :: F) ++ loopsOf y F
  | .cond _ x y, F => loopsOf x F ++ loopsOf y F
  | .block id x, F => loopsOf x (.b id :: F)
  | .loop (.forget keep x), F => (x, .l (.forget keep x) :: F) :: loopsOf x (.l (.forget keep x) :: F)
  | .forget _ x, F => (x, F) :: loopsOf x F
  | _, _ => []
/-- A function's ranges over closures: the temps, the assignment and the body, and what is to be done behind. -/
def backsOf : ACode → List Fr → List (Nat × Nat × ACode × ACode × List Fr)
  | .seq x y, F => backsOf x (.s y :: F) ++ backsOf y F
  | .cond _ x y, F => backsOf x F ++ backsOf y F
  | .block id x, F => backsOf x (.b id :: F)
  | .loop (.forget keep x), F => backsOf x (.l (.forget keep x) :: F)
  | .forget _ x, F => backsOf x F
  | .back _ p q x y, F => [(p, q, x, y, F)]
  | _, _ => []
def FnA.back (a : FnA) (j : Nat) : Nat × Nat × ACode × ACode × List Fr := (backsOf a.code []).getD j (0, 0, .skip, .skip, [])
def FnA.loop (a : FnA) (j : Nat) : ACode × List Fr := (loopsOf a.code []).getD j (.skip, [])

/-- The tree of a function that is called; and of a loop of it, at its head. -/
def FnA.start (a : FnA) (sp : Sp) (m : Nat) (as : List A) : VC := goW sp a.rs m (.run a.code) (startA a.n a.tags as) []
def FnA.at_ (a : FnA) (j : Nat) (s : St) : VC := .cfg (a.loop j).1 s (a.loop j).2
def FnA.round (a : FnA) (sp : Sp) (m : Nat) (j : Nat) (s : St) : VC := goW sp a.rs m (.run (a.loop j).1) s (a.loop j).2
def FnA.bk (a : FnA) (j : Nat) (sh : Option Nat × List Kd) (blk0 : List (Nat × Blk)) (rows : List (List D)) (k : Nat) (s : St) : VC := .cfg (.rnd k rows sh (a.back j).1 (a.back j).2.1 (a.back j).2.2.1 (a.back j).2.2.2.1 blk0) s (a.back j).2.2.2.2
def FnA.bkround (a : FnA) (sp : Sp) (m : Nat) (j : Nat) (sh : Option Nat × List Kd) (blk0 : List (Nat × Blk)) (rows : List (List D)) (k : Nat) (s : St) : VC := goW sp a.rs m (.run (.rnd k rows sh (a.back j).1 (a.back j).2.1 (a.back j).2.2.1 (a.back j).2.2.2.1 blk0)) s (a.back j).2.2.2.2

section
variable {P : Program} {sp : Sp}

theorem acalls_of (hsp : sp.sound P) {f : FuncId} {fn : Func} {tbl : List (Nat × List Nat)} {a : FnA} {nargs : Nat} (hf : P.funcs[f]? = some fn) (ha : fnA P fn nargs tbl = some a) {as : List A} (hl : as.length = nargs) {m : Nat} {r : RR}
    (h : (a.start sp m as).holds sp.cx a.rs fun x => x = r) : ACalls P f as r := by
  unfold fnA at ha
  split at ha
  · rename_i c hb
    split at ha
    · rename_i ac rs hc hr
      simp only [Option.some.injEq] at ha; subst ha
      refine acalls_go (K := keepBy tbl) hsp hf hb ?_ hr h
      simp only [startA, List.length_append, List.length_map, List.length_replicate, hl]
      exact hc
    · cases ha
  · cases ha

theorem bk_of_round (hsp : sp.sound P) {a : FnA} {j m : Nat} {sh : Option Nat × List Kd} {blk0 : List (Nat × Blk)} {rows : List (List D)} {k : Nat} {s : St} {R : RR → Prop} (h : (a.bkround sp m j sh blk0 rows k s).holds sp.cx a.rs R) : (a.bk j sh blk0 rows k s).holds sp.cx a.rs R := goW_sound hsp _ _ _ _ h
theorem at_of_round (hsp : sp.sound P) {a : FnA} {j m : Nat} {s : St} {R : RR → Prop} (h : (a.round sp m j s).holds sp.cx a.rs R) : (a.at_ j s).holds sp.cx a.rs R := goW_sound hsp _ _ _ _ h
end
attribute [irreducible] FnA.at_ FnA.bk

end Go.Proofs.YtmmlolampgnamaaDoor.Ax
