/- Ranges over closures within functions that are run in their callers' places. -/
import Derived.Test.YtclabjihjopclaaAxZ
namespace Go.Proofs.Ytclabjihjopclaa.Ax
open Go.RowKit
set_option linter.unusedVariables false
def inlsOf : ACode → List Fr → List (Option Nat × ACode × List RVar × List Fr)
  | .seq x y, F => inlsOf x (.s y :: F) ++ inlsOf y F
  | .cond _ x y, F => inlsOf x F ++ inlsOf y F
  | .block id x, F => inlsOf x (.b id :: F)
  | .loop (.forget keep x), F => inlsOf x (.l (.forget keep x) :: F)
  | .forget _ x, F => inlsOf x F
  | .inl d _ body rs _, F => [(d, body, rs, F)]
  | _, _ => []
def FnA.inl (a : FnA) (i : Nat) : Option Nat × ACode × List RVar × List Fr := (inlsOf a.code []).getD i (none, .skip, [], [])
def FnA.iback (a : FnA) (i : Nat) : Nat × Nat × ACode × ACode × List Fr := (backsOf (a.inl i).2.1 []).getD 0 (0, 0, .skip, .skip, [])
def FnA.bki (a : FnA) (i : Nat) (slots : List AV) (sh : Option Nat × List Kd) (blk0 : List (Nat × Blk)) (rows : List (List D)) (k : Nat) (s : St) : VC := .cfg (.rnd k rows sh (a.iback i).1 (a.iback i).2.1 (a.iback i).2.2.1 (a.iback i).2.2.2.1 blk0) s ((a.iback i).2.2.2.2 ++ .i (a.inl i).1 slots (a.inl i).2.2.1 :: (a.inl i).2.2.2)
def FnA.bkiround (a : FnA) (sp : Sp) (m : Nat) (i : Nat) (slots : List AV) (sh : Option Nat × List Kd) (blk0 : List (Nat × Blk)) (rows : List (List D)) (k : Nat) (s : St) : VC := goW sp a.rs m (.run (.rnd k rows sh (a.iback i).1 (a.iback i).2.1 (a.iback i).2.2.1 (a.iback i).2.2.2.1 blk0)) s ((a.iback i).2.2.2.2 ++ .i (a.inl i).1 slots (a.inl i).2.2.1 :: (a.inl i).2.2.2)
theorem bki_of_round {P : Program} {sp : Sp} (hsp : sp.sound P) {a : FnA} {i m : Nat} {slots : List AV} {sh : Option Nat × List Kd} {blk0 : List (Nat × Blk)} {rows : List (List D)} {k : Nat} {s : St} {R : RR → Prop} (h : (a.bkiround sp m i slots sh blk0 rows k s).holds sp.cx a.rs R) : (a.bki i slots sh blk0 rows k s).holds sp.cx a.rs R := goW_sound hsp _ _ _ _ h
attribute [irreducible] FnA.bki
end Go.Proofs.Ytclabjihjopclaa.Ax
