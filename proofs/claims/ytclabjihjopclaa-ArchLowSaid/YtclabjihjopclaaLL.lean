/- The statement ArchLow. -/
import Derived.Test.YtclabjihjopclaaP1
namespace Go.Proofs.Ytclabjihjopclaa.Ax
open Go.RowKit
set_option linter.unusedVariables false
set_option linter.unusedSimpArgs false
noncomputable def v_make (x : List Int × Unit) : Prg := makeS x.1
def sh_make (p : Prg) : RR := .agg (p.cells.map .d)
theorem e_make (x : List Int × Unit) : sh_make (v_make x) = c_make.ans x := rfl
def v_states (x : Prg × List Int × Int) : Sta × Sta := statesS x.1 x.2.1 x.2.2
theorem e_states (x : Prg × List Int × Int) : rss (v_states x) = c_states.ans x := rfl
def sh_states (x : Sta × Sta) : RR := rss x
theorem e_rPlaces (x : Prg) : rplaces (placesS x) = c_rPlaces.ans x := rfl
def v_rPlaces (x : Prg) : List Place := placesS x
def sh_rPlaces (x : List Place) : RR := rplaces x
theorem e_aLow (x : Prg × Sta × Sta) : rb (lowS x.1 x.2.1 x.2.2) = c_aLow.ans x := rfl
def v_aLow (x : Prg × Sta × Sta) : Bool := lowS x.1 x.2.1 x.2.2
def sh_aLow (x : Bool) : RR := rb x
def rdLLI : List A → List Int × List Int × Int
  | [.c (.sl l), .c (.sl m), .c (.int _ i)] => (listOf Int l, listOf Int m, i)
  | _ => default
def c_lLow : FT (List Int × List Int × Int) := ⟨9, fun x => [al x.1, al x.2.1, ai x.2.2], rdLLI, fun _ => True, fun x => rb true, false, fun x => by simp [al, ai, rdLLI]⟩
noncomputable def a_lLow : FnA := (fnA Try.prog Try.f9 3 [(1000000015, [7, 8, 10]), (1000000017, [7, 8, 10, 12]), (1000000020, [7, 8, 10, 12])]).getD ⟨0, .skip, [], []⟩
noncomputable def s_lLow : Sp := spT [c_make.gfe v_make sh_make e_make, c_states.gfe v_states sh_states e_states, c_rPlaces.gfe v_rPlaces sh_rPlaces e_rPlaces, c_aLow.gfe v_aLow sh_aLow e_aLow, c_awake7.fe]
theorem s_lLow_sound : s_lLow.sound Try.prog := spT_sound fun e he => by
  simp only [List.mem_cons, List.not_mem_nil, or_false] at he
  rcases he with rfl | rfl | rfl | rfl | rfl
  · exact FT.gfe_good c_make_good
  · exact FT.gfe_good c_states_good
  · exact FT.gfe_good c_rPlaces_good
  · exact FT.gfe_good c_aLow_good
  · exact c_awake7_good
def Z_ll (p : Prg) (a : Sta) (b0 b1 b2 b3 : Int) (n : Nat) : List (Nat × Blk) := [(448, bx p.cells), (512, bc [.d (.int .i64 a.r0), .d (.int .i64 a.r1), .d (.int .i64 a.r2), .d (.int .i64 a.r3), .own 1220 1 (rowsOn a.mem).length, .own 1221 1 (rowsOn a.stack).length, .d (.int .i64 a.pc)]), (640, bc [.d (.int .i64 b0), .d (.int .i64 b1), .d (.int .i64 b2), .d (.int .i64 b3), .own 1664 1 n, .own 1221 1 (rowsOn a.stack).length, .d (.int .i64 a.pc)])]
def F_ll0 (p : Prg) (a : Sta) (b0 b1 b2 b3 : Int) (M : List (List D)) (n : Nat) : St := ⟨mkS 117 [(7, vp 448), (8, vp 512), (10, vp 640)], Z_ll p a b0 b1 b2 b3 n ++ [(1220, ba 1 (rowsOn a.mem)), (1221, ba 1 (rowsOn a.stack)), (1664, ba 1 M)]⟩
def F_ll1 (p : Prg) (a : Sta) (b0 b1 b2 b3 : Int) (M : List (List D)) (n : Nat) (xr : Bool) (xn : Int) (xs : Bool) : St := ⟨mkS 117 [(7, vp 448), (8, vp 512), (10, vp 640), (12, vp 768)], Z_ll p a b0 b1 b2 b3 n ++ [(768, bx [.bool xr, .int .i64 xn, .bool xs]), (1220, ba 1 (rowsOn a.mem)), (1221, ba 1 (rowsOn a.stack)), (1664, ba 1 M)]⟩
set_option maxRecDepth 100000 in
theorem t_lLow (m l : List Int) (which : Int) : a_lLow.start s_lLow 400 [al m, al l, ai which] =
(VC.need (PreOk c_make (m, ()) [A.c (D.sl (rowsOn m))])
(VC.all (v_make (listOf Int (rowsOn m), ())) fun (y3 : Prg) =>
(VC.need (PreOk c_states (Prg.of (Prg.cells y3), l, (1 : Int)) [A.agg (Prg.cells y3), A.c (D.sl (rowsOn l)), A.c (D.int IntKind.i64 (1 : Int))])
(VC.all (((startS (Prg.of (Prg.cells y3)) (toldS (List.length (placesS (Prg.of (Prg.cells y3)))) (padF (listOf Int (rowsOn l))) (List.length (placesS (Prg.of (Prg.cells y3)))))).fst, (startS (Prg.of (Prg.cells y3)) (toldS (List.length (placesS (Prg.of (Prg.cells y3)))) (twinF (1 : Int) (placesS (Prg.of (Prg.cells y3))) (listOf Int (rowsOn l))) (List.length (placesS (Prg.of (Prg.cells y3)))))).fst)) fun (y4 : Sta × Sta) =>
(VC.need ((List.all (rowsOn y4.fst.mem) fun r ↦ List.length r == (1 : Nat)) = true ∧ (List.all ([] : List (List D)) fun r ↦ List.length r == (1 : Nat)) = true ∧ ((0 : Nat) + List.length (rowsOn y4.fst.mem) + (100 : Nat)) * (9 : Nat) ≤ (70368744177664 : Nat))
(VC.need (PreOk c_rPlaces y3 [A.agg (Prg.cells y3)])
(VC.all (v_rPlaces { w := y3.w, window := y3.window, fuel := y3.fuel, r0 := y3.r0, r1 := y3.r1, r2 := y3.r2, r3 := y3.r3, mems := listOf PMem (rowsOn y3.mems), labels := listOf PLabel (rowsOn y3.labels), ins := listOf Ins (rowsOn y3.ins) }) fun (y5 : List Place) =>
(VC.br ((↑(List.length (rowsOn y5)) : Int) == (0 : Int))
 (VC.br (decide (bits BinOp.and IntKind.i64 which (3 : Int) = (0 : Int)))
  (VC.br (decide (bits BinOp.and IntKind.i64 which (3 : Int) = (0 : Int)))
   (FnA.at_ a_lLow 0 (F_ll0 y3 y4.fst (IntKind.wrap IntKind.i64 (y4.fst.r0 + (1 : Int))) y4.fst.r1 y4.fst.r2 y4.fst.r3 ([] ++ rowsOn y4.fst.mem) ((0 : Nat) + List.length (rowsOn y4.fst.mem))))
   (VC.br (decide (bits BinOp.and IntKind.i64 which (3 : Int) = (1 : Int)))
    (FnA.at_ a_lLow 0 (F_ll0 y3 y4.fst y4.fst.r0 (IntKind.wrap IntKind.i64 (y4.fst.r0 + (1 : Int))) y4.fst.r2 y4.fst.r3 ([] ++ rowsOn y4.fst.mem) ((0 : Nat) + List.length (rowsOn y4.fst.mem))))
    (VC.br (decide (bits BinOp.and IntKind.i64 which (3 : Int) = (2 : Int)))
     (FnA.at_ a_lLow 0 (F_ll0 y3 y4.fst y4.fst.r0 y4.fst.r1 (IntKind.wrap IntKind.i64 (y4.fst.r0 + (1 : Int))) y4.fst.r3 ([] ++ rowsOn y4.fst.mem) ((0 : Nat) + List.length (rowsOn y4.fst.mem))))
     (VC.br (decide (bits BinOp.and IntKind.i64 which (3 : Int) = (3 : Int)))
      (FnA.at_ a_lLow 0 (F_ll0 y3 y4.fst y4.fst.r0 y4.fst.r1 y4.fst.r2 (IntKind.wrap IntKind.i64 (y4.fst.r0 + (1 : Int))) ([] ++ rowsOn y4.fst.mem) ((0 : Nat) + List.length (rowsOn y4.fst.mem))))
      VC.ff))))
  (VC.br (decide (bits BinOp.and IntKind.i64 which (3 : Int) = (1 : Int)))
   (VC.br (decide (bits BinOp.and IntKind.i64 which (3 : Int) = (0 : Int)))
    (FnA.at_ a_lLow 0 (F_ll0 y3 y4.fst (IntKind.wrap IntKind.i64 (y4.fst.r1 + (1 : Int))) y4.fst.r1 y4.fst.r2 y4.fst.r3 ([] ++ rowsOn y4.fst.mem) ((0 : Nat) + List.length (rowsOn y4.fst.mem))))
    (VC.br (decide (bits BinOp.and IntKind.i64 which (3 : Int) = (1 : Int)))
     (FnA.at_ a_lLow 0 (F_ll0 y3 y4.fst y4.fst.r0 (IntKind.wrap IntKind.i64 (y4.fst.r1 + (1 : Int))) y4.fst.r2 y4.fst.r3 ([] ++ rowsOn y4.fst.mem) ((0 : Nat) + List.length (rowsOn y4.fst.mem))))
     (VC.br (decide (bits BinOp.and IntKind.i64 which (3 : Int) = (2 : Int)))
      (FnA.at_ a_lLow 0 (F_ll0 y3 y4.fst y4.fst.r0 y4.fst.r1 (IntKind.wrap IntKind.i64 (y4.fst.r1 + (1 : Int))) y4.fst.r3 ([] ++ rowsOn y4.fst.mem) ((0 : Nat) + List.length (rowsOn y4.fst.mem))))
      (VC.br (decide (bits BinOp.and IntKind.i64 which (3 : Int) = (3 : Int)))
       (FnA.at_ a_lLow 0 (F_ll0 y3 y4.fst y4.fst.r0 y4.fst.r1 y4.fst.r2 (IntKind.wrap IntKind.i64 (y4.fst.r1 + (1 : Int))) ([] ++ rowsOn y4.fst.mem) ((0 : Nat) + List.length (rowsOn y4.fst.mem))))
       VC.ff))))
   (VC.br (decide (bits BinOp.and IntKind.i64 which (3 : Int) = (2 : Int)))
    (VC.br (decide (bits BinOp.and IntKind.i64 which (3 : Int) = (0 : Int)))
     (FnA.at_ a_lLow 0 (F_ll0 y3 y4.fst (IntKind.wrap IntKind.i64 (y4.fst.r2 + (1 : Int))) y4.fst.r1 y4.fst.r2 y4.fst.r3 ([] ++ rowsOn y4.fst.mem) ((0 : Nat) + List.length (rowsOn y4.fst.mem))))
     (VC.br (decide (bits BinOp.and IntKind.i64 which (3 : Int) = (1 : Int)))
      (FnA.at_ a_lLow 0 (F_ll0 y3 y4.fst y4.fst.r0 (IntKind.wrap IntKind.i64 (y4.fst.r2 + (1 : Int))) y4.fst.r2 y4.fst.r3 ([] ++ rowsOn y4.fst.mem) ((0 : Nat) + List.length (rowsOn y4.fst.mem))))
      (VC.br (decide (bits BinOp.and IntKind.i64 which (3 : Int) = (2 : Int)))
       (FnA.at_ a_lLow 0 (F_ll0 y3 y4.fst y4.fst.r0 y4.fst.r1 (IntKind.wrap IntKind.i64 (y4.fst.r2 + (1 : Int))) y4.fst.r3 ([] ++ rowsOn y4.fst.mem) ((0 : Nat) + List.length (rowsOn y4.fst.mem))))
       (VC.br (decide (bits BinOp.and IntKind.i64 which (3 : Int) = (3 : Int)))
        (FnA.at_ a_lLow 0 (F_ll0 y3 y4.fst y4.fst.r0 y4.fst.r1 y4.fst.r2 (IntKind.wrap IntKind.i64 (y4.fst.r2 + (1 : Int))) ([] ++ rowsOn y4.fst.mem) ((0 : Nat) + List.length (rowsOn y4.fst.mem))))
        VC.ff))))
    (VC.br (decide (bits BinOp.and IntKind.i64 which (3 : Int) = (3 : Int)))
     (VC.br (decide (bits BinOp.and IntKind.i64 which (3 : Int) = (0 : Int)))
      (FnA.at_ a_lLow 0 (F_ll0 y3 y4.fst (IntKind.wrap IntKind.i64 (y4.fst.r3 + (1 : Int))) y4.fst.r1 y4.fst.r2 y4.fst.r3 ([] ++ rowsOn y4.fst.mem) ((0 : Nat) + List.length (rowsOn y4.fst.mem))))
      (VC.br (decide (bits BinOp.and IntKind.i64 which (3 : Int) = (1 : Int)))
       (FnA.at_ a_lLow 0 (F_ll0 y3 y4.fst y4.fst.r0 (IntKind.wrap IntKind.i64 (y4.fst.r3 + (1 : Int))) y4.fst.r2 y4.fst.r3 ([] ++ rowsOn y4.fst.mem) ((0 : Nat) + List.length (rowsOn y4.fst.mem))))
       (VC.br (decide (bits BinOp.and IntKind.i64 which (3 : Int) = (2 : Int)))
        (FnA.at_ a_lLow 0 (F_ll0 y3 y4.fst y4.fst.r0 y4.fst.r1 (IntKind.wrap IntKind.i64 (y4.fst.r3 + (1 : Int))) y4.fst.r3 ([] ++ rowsOn y4.fst.mem) ((0 : Nat) + List.length (rowsOn y4.fst.mem))))
        (VC.br (decide (bits BinOp.and IntKind.i64 which (3 : Int) = (3 : Int)))
         (FnA.at_ a_lLow 0 (F_ll0 y3 y4.fst y4.fst.r0 y4.fst.r1 y4.fst.r2 (IntKind.wrap IntKind.i64 (y4.fst.r3 + (1 : Int))) ([] ++ rowsOn y4.fst.mem) ((0 : Nat) + List.length (rowsOn y4.fst.mem))))
         VC.ff))))
     VC.ff))))
 (VC.need ((↑(List.length (rowsOn y5)) : Int) ≠ (0 : Int))
 (VC.need ((0 : Int) ≤ Int.tmod (bits BinOp.and IntKind.i64 which (255 : Int)) (↑(List.length (rowsOn y5)) : Int) ∧ Int.tmod (bits BinOp.and IntKind.i64 which (255 : Int)) (↑(List.length (rowsOn y5)) : Int) < (↑(List.length (rowsOn y5)) : Int))
 (VC.need (Int.toNat (Int.tmod (bits BinOp.and IntKind.i64 which (255 : Int)) (↑(List.length (rowsOn y5)) : Int)) < List.length (rowsOn y5) ∧ List.length (rowAt (rowsOn y5) (Int.toNat (Int.tmod (bits BinOp.and IntKind.i64 which (255 : Int)) (↑(List.length (rowsOn y5)) : Int)))) = (3 : Nat) ∧ okSh [Kd.bool, Kd.int IntKind.i64, Kd.bool] (List.drop (0 : Nat) (rowAt (rowsOn y5) (Int.toNat (Int.tmod (bits BinOp.and IntKind.i64 which (255 : Int)) (↑(List.length (rowsOn y5)) : Int))))))
 (FnA.at_ a_lLow 1 (F_ll1 y3 y4.fst y4.fst.r0 y4.fst.r1 y4.fst.r2 y4.fst.r3 ([] ++ rowsOn y4.fst.mem) ((0 : Nat) + List.length (rowsOn y4.fst.mem)) (asBool (List.getD (List.drop (0 : Nat) (rowAt (rowsOn y5) (Int.toNat (Int.tmod (bits BinOp.and IntKind.i64 which (255 : Int)) (↑(List.length (rowsOn y5)) : Int))))) (0 : Nat) D.nilp)) (asInt (List.getD (List.drop (0 : Nat) (rowAt (rowsOn y5) (Int.toNat (Int.tmod (bits BinOp.and IntKind.i64 which (255 : Int)) (↑(List.length (rowsOn y5)) : Int))))) (1 : Nat) D.nilp)) (asBool (List.getD (List.drop (0 : Nat) (rowAt (rowsOn y5) (Int.toNat (Int.tmod (bits BinOp.and IntKind.i64 which (255 : Int)) (↑(List.length (rowsOn y5)) : Int))))) (2 : Nat) D.nilp))))))))))))))) := by kernel_rfl
set_option maxRecDepth 100000 in
theorem t_ll0 (p : Prg) (a : Sta) (b0 b1 b2 b3 : Int) (M : List (List D)) (n : Nat) : a_lLow.round s_lLow 400 0 (F_ll0 p a b0 b1 b2 b3 M n) =
(VC.need (PreOk c_aLow (Prg.of (Prg.cells p), Sta.of (Sta.cells a), Sta.of (Sta.cells a)) [A.agg (Prg.cells p), A.agg (Sta.cells a), A.agg (Sta.cells a)])
(VC.all (v_aLow (Prg.of (Prg.cells p), Sta.of (Sta.cells a), Sta.of (Sta.cells a))) fun (y8 : Bool) =>
(VC.br (y8)
 (VC.need (PreOk c_aLow (Prg.of (Prg.cells p), Sta.of (Sta.cells a), Sta.of [D.int IntKind.i64 b0, D.int IntKind.i64 b1, D.int IntKind.i64 b2, D.int IntKind.i64 b3, D.sl M, D.sl (rowsOn a.stack), D.int IntKind.i64 a.pc]) [A.agg (Prg.cells p), A.agg (Sta.cells a), A.agg [D.int IntKind.i64 b0, D.int IntKind.i64 b1, D.int IntKind.i64 b2, D.int IntKind.i64 b3, D.sl M, D.sl (rowsOn a.stack), D.int IntKind.i64 a.pc]])
 (VC.all (v_aLow (Prg.of (Prg.cells p), Sta.of (Sta.cells a), Sta.of [D.int IntKind.i64 b0, D.int IntKind.i64 b1, D.int IntKind.i64 b2, D.int IntKind.i64 b3, D.sl M, D.sl (rowsOn a.stack), D.int IntKind.i64 a.pc])) fun (y9 : Bool) =>
 (VC.br (!y9)
  (VC.need (PreOk c_awake7 PUnit.unit [])
  (VC.ret (some (RR.c (Rc.d (D.bool true))))))
  (VC.ret (some (RR.c (Rc.d (D.bool false))))))))
 (VC.ret (some (RR.c (Rc.d (D.bool false)))))))) := by kernel_rfl
set_option maxRecDepth 100000 in
theorem t_ll1 (p : Prg) (a : Sta) (b0 b1 b2 b3 : Int) (M : List (List D)) (n : Nat) (xr : Bool) (xn : Int) (xs : Bool) : a_lLow.round s_lLow 400 1 (F_ll1 p a b0 b1 b2 b3 M n xr xn xs) =
(VC.br (xr)
 (VC.br (decide (xn = (0 : Int)))
  (VC.br (decide (xn = (0 : Int)))
   (FnA.at_ a_lLow 2 (F_ll1 p a (bits BinOp.xor IntKind.i64 b0 (1 : Int)) b1 b2 b3 M n xr xn xs))
   (VC.br (decide (xn = (1 : Int)))
    (FnA.at_ a_lLow 2 (F_ll1 p a b0 (bits BinOp.xor IntKind.i64 b0 (1 : Int)) b2 b3 M n xr xn xs))
    (VC.br (decide (xn = (2 : Int)))
     (FnA.at_ a_lLow 2 (F_ll1 p a b0 b1 (bits BinOp.xor IntKind.i64 b0 (1 : Int)) b3 M n xr xn xs))
     (VC.br (decide (xn = (3 : Int)))
      (FnA.at_ a_lLow 2 (F_ll1 p a b0 b1 b2 (bits BinOp.xor IntKind.i64 b0 (1 : Int)) M n xr xn xs))
      VC.ff))))
  (VC.br (decide (xn = (1 : Int)))
   (VC.br (decide (xn = (0 : Int)))
    (FnA.at_ a_lLow 2 (F_ll1 p a (bits BinOp.xor IntKind.i64 b1 (1 : Int)) b1 b2 b3 M n xr xn xs))
    (VC.br (decide (xn = (1 : Int)))
     (FnA.at_ a_lLow 2 (F_ll1 p a b0 (bits BinOp.xor IntKind.i64 b1 (1 : Int)) b2 b3 M n xr xn xs))
     (VC.br (decide (xn = (2 : Int)))
      (FnA.at_ a_lLow 2 (F_ll1 p a b0 b1 (bits BinOp.xor IntKind.i64 b1 (1 : Int)) b3 M n xr xn xs))
      (VC.br (decide (xn = (3 : Int)))
       (FnA.at_ a_lLow 2 (F_ll1 p a b0 b1 b2 (bits BinOp.xor IntKind.i64 b1 (1 : Int)) M n xr xn xs))
       VC.ff))))
   (VC.br (decide (xn = (2 : Int)))
    (VC.br (decide (xn = (0 : Int)))
     (FnA.at_ a_lLow 2 (F_ll1 p a (bits BinOp.xor IntKind.i64 b2 (1 : Int)) b1 b2 b3 M n xr xn xs))
     (VC.br (decide (xn = (1 : Int)))
      (FnA.at_ a_lLow 2 (F_ll1 p a b0 (bits BinOp.xor IntKind.i64 b2 (1 : Int)) b2 b3 M n xr xn xs))
      (VC.br (decide (xn = (2 : Int)))
       (FnA.at_ a_lLow 2 (F_ll1 p a b0 b1 (bits BinOp.xor IntKind.i64 b2 (1 : Int)) b3 M n xr xn xs))
       (VC.br (decide (xn = (3 : Int)))
        (FnA.at_ a_lLow 2 (F_ll1 p a b0 b1 b2 (bits BinOp.xor IntKind.i64 b2 (1 : Int)) M n xr xn xs))
        VC.ff))))
    (VC.br (decide (xn = (3 : Int)))
     (VC.br (decide (xn = (0 : Int)))
      (FnA.at_ a_lLow 2 (F_ll1 p a (bits BinOp.xor IntKind.i64 b3 (1 : Int)) b1 b2 b3 M n xr xn xs))
      (VC.br (decide (xn = (1 : Int)))
       (FnA.at_ a_lLow 2 (F_ll1 p a b0 (bits BinOp.xor IntKind.i64 b3 (1 : Int)) b2 b3 M n xr xn xs))
       (VC.br (decide (xn = (2 : Int)))
        (FnA.at_ a_lLow 2 (F_ll1 p a b0 b1 (bits BinOp.xor IntKind.i64 b3 (1 : Int)) b3 M n xr xn xs))
        (VC.br (decide (xn = (3 : Int)))
         (FnA.at_ a_lLow 2 (F_ll1 p a b0 b1 b2 (bits BinOp.xor IntKind.i64 b3 (1 : Int)) M n xr xn xs))
         VC.ff))))
     VC.ff))))
 (VC.need ((0 : Int) ≤ xn ∧ xn < (↑n : Int))
 (VC.need (Int.toNat xn < List.length M ∧ List.length (rowAt M (Int.toNat xn)) = (1 : Nat) ∧ okSh [Kd.int IntKind.i64] (List.drop (0 : Nat) (rowAt M (Int.toNat xn))))
 (VC.need ((0 : Int) ≤ xn ∧ xn < (↑n : Int))
 (VC.need (Int.toNat xn < List.length M ∧ List.length (rowAt M (Int.toNat xn)) = (1 : Nat) ∧ (1 : Nat) ≤ (1 : Nat))
 (FnA.at_ a_lLow 2 (F_ll1 p a b0 b1 b2 b3 (List.set M (Int.toNat xn) (splice (rowAt M (Int.toNat xn)) (0 : Nat) [D.int IntKind.i64 (bits BinOp.xor IntKind.i64 (asInt (List.getD (List.drop (0 : Nat) (rowAt M (Int.toNat xn))) (0 : Nat) D.nilp)) (1 : Int))])) n xr xn xs))))))) := by kernel_rfl
set_option maxRecDepth 100000 in
theorem t_ll2 (p : Prg) (a : Sta) (b0 b1 b2 b3 : Int) (M : List (List D)) (n : Nat) (xr : Bool) (xn : Int) (xs : Bool) : a_lLow.round s_lLow 400 2 (F_ll1 p a b0 b1 b2 b3 M n xr xn xs) =
(VC.need (PreOk c_aLow (Prg.of (Prg.cells p), Sta.of (Sta.cells a), Sta.of [D.int IntKind.i64 b0, D.int IntKind.i64 b1, D.int IntKind.i64 b2, D.int IntKind.i64 b3, D.sl M, D.sl (rowsOn a.stack), D.int IntKind.i64 a.pc]) [A.agg (Prg.cells p), A.agg (Sta.cells a), A.agg [D.int IntKind.i64 b0, D.int IntKind.i64 b1, D.int IntKind.i64 b2, D.int IntKind.i64 b3, D.sl M, D.sl (rowsOn a.stack), D.int IntKind.i64 a.pc]])
(VC.all (v_aLow (Prg.of (Prg.cells p), Sta.of (Sta.cells a), Sta.of [D.int IntKind.i64 b0, D.int IntKind.i64 b1, D.int IntKind.i64 b2, D.int IntKind.i64 b3, D.sl M, D.sl (rowsOn a.stack), D.int IntKind.i64 a.pc])) fun (y11 : Bool) =>
(VC.br (if false = true then !y11 == xs else y11 == xs)
 (VC.need (PreOk c_aLow (Prg.of (Prg.cells p), Sta.of [D.int IntKind.i64 b0, D.int IntKind.i64 b1, D.int IntKind.i64 b2, D.int IntKind.i64 b3, D.sl M, D.sl (rowsOn a.stack), D.int IntKind.i64 a.pc], Sta.of (Sta.cells a)) [A.agg (Prg.cells p), A.agg [D.int IntKind.i64 b0, D.int IntKind.i64 b1, D.int IntKind.i64 b2, D.int IntKind.i64 b3, D.sl M, D.sl (rowsOn a.stack), D.int IntKind.i64 a.pc], A.agg (Sta.cells a)])
 (VC.all (v_aLow (Prg.of (Prg.cells p), Sta.of [D.int IntKind.i64 b0, D.int IntKind.i64 b1, D.int IntKind.i64 b2, D.int IntKind.i64 b3, D.sl M, D.sl (rowsOn a.stack), D.int IntKind.i64 a.pc], Sta.of (Sta.cells a))) fun (y12 : Bool) =>
 (VC.br (if false = true then !y12 == xs else y12 == xs)
  (VC.need (PreOk c_aLow (Prg.of (Prg.cells p), Sta.of [D.int IntKind.i64 b0, D.int IntKind.i64 b1, D.int IntKind.i64 b2, D.int IntKind.i64 b3, D.sl M, D.sl (rowsOn a.stack), D.int IntKind.i64 a.pc], Sta.of [D.int IntKind.i64 b0, D.int IntKind.i64 b1, D.int IntKind.i64 b2, D.int IntKind.i64 b3, D.sl M, D.sl [[D.int IntKind.i64 (1 : Int)]], D.int IntKind.i64 a.pc]) [A.agg (Prg.cells p), A.agg [D.int IntKind.i64 b0, D.int IntKind.i64 b1, D.int IntKind.i64 b2, D.int IntKind.i64 b3, D.sl M, D.sl (rowsOn a.stack), D.int IntKind.i64 a.pc], A.agg [D.int IntKind.i64 b0, D.int IntKind.i64 b1, D.int IntKind.i64 b2, D.int IntKind.i64 b3, D.sl M, D.sl [[D.int IntKind.i64 (1 : Int)]], D.int IntKind.i64 a.pc]])
  (VC.all (v_aLow (Prg.of (Prg.cells p), Sta.of [D.int IntKind.i64 b0, D.int IntKind.i64 b1, D.int IntKind.i64 b2, D.int IntKind.i64 b3, D.sl M, D.sl (rowsOn a.stack), D.int IntKind.i64 a.pc], Sta.of [D.int IntKind.i64 b0, D.int IntKind.i64 b1, D.int IntKind.i64 b2, D.int IntKind.i64 b3, D.sl M, D.sl [[D.int IntKind.i64 (1 : Int)]], D.int IntKind.i64 a.pc])) fun (y13 : Bool) =>
  (VC.br (!y13)
   (VC.need (PreOk c_aLow (Prg.of (Prg.cells p), Sta.of (Sta.cells a), Sta.of [D.int IntKind.i64 b0, D.int IntKind.i64 b1, D.int IntKind.i64 b2, D.int IntKind.i64 b3, D.sl M, D.sl [[D.int IntKind.i64 (1 : Int)]], D.int IntKind.i64 a.pc]) [A.agg (Prg.cells p), A.agg (Sta.cells a), A.agg [D.int IntKind.i64 b0, D.int IntKind.i64 b1, D.int IntKind.i64 b2, D.int IntKind.i64 b3, D.sl M, D.sl [[D.int IntKind.i64 (1 : Int)]], D.int IntKind.i64 a.pc]])
   (VC.all (v_aLow (Prg.of (Prg.cells p), Sta.of (Sta.cells a), Sta.of [D.int IntKind.i64 b0, D.int IntKind.i64 b1, D.int IntKind.i64 b2, D.int IntKind.i64 b3, D.sl M, D.sl [[D.int IntKind.i64 (1 : Int)]], D.int IntKind.i64 a.pc])) fun (y14 : Bool) =>
   (VC.br (!y14)
    (VC.need (PreOk c_awake7 PUnit.unit [])
    (VC.ret (some (RR.c (Rc.d (D.bool true))))))
    (VC.ret (some (RR.c (Rc.d (D.bool false))))))))
   (VC.ret (some (RR.c (Rc.d (D.bool false))))))))
  (VC.ret (some (RR.c (Rc.d (D.bool false))))))))
 (VC.ret (some (RR.c (Rc.d (D.bool false)))))))) := by kernel_rfl
theorem low_put {p : Prg} {a : Sta} {x : Place} {v : Int} (hm : Mems p.mems) (ha : a.mem.length = cellsS p.mems) (hx : x ∈ placesS p) (hv : v ≠ holdP a x) : lowS p a (putPlace a x v) = x.secret ∧ lowS p (putPlace a x v) a = x.secret ∧ (putPlace a x v).mem.length = cellsS p.mems ∧ (putPlace a x v).stack = a.stack ∧ (putPlace a x v).pc = a.pc := by
  rw [mem_places p hm] at hx
  obtain ⟨xr, xn, xs⟩ := x
  rcases hx with ⟨g1, g2, g3, g4, g5⟩ | ⟨g1, g2, g3, g4⟩ <;> simp only at g1 <;> subst g1
  · have e : putPlace a ⟨true, xn, xs⟩ v = a.setReg xn v := rfl
    simp only at g2 g3 g4 g5
    have hv : v ≠ a.reg xn := hv
    obtain ⟨m1, m2, m3⟩ := setReg_mem a xn v
    rw [e]
    refine ⟨?_, ?_, by rw [m1]; exact ha, m2, m3⟩
    all_goals rw [Bool.eq_iff_iff, lowS_iff hm (by first | exact ha | (rw [m1]; exact ha)) (by first | exact ha | (rw [m1]; exact ha)), m1, m2, m3, g5, decide_eq_true_iff]
    all_goals constructor
    all_goals first
      | (rintro ⟨_, _, h, _⟩
         refine Classical.byContradiction fun hn => ?_
         have := h xn ⟨g2, g3⟩ hn
         rw [reg_setReg a v ⟨g2, g3⟩ ⟨g2, g3⟩, if_pos rfl] at this
         first | exact hv this | exact hv this.symm)
      | (intro h
         refine ⟨rfl, rfl, fun r hr hn => ?_, fun _ _ _ => rfl⟩
         rw [reg_setReg a v ⟨g2, g3⟩ hr, if_neg (fun e => hn (by rw [e]; exact h))])
  · have e : putPlace a ⟨false, xn, xs⟩ v = { a with mem := a.mem.set xn.toNat v } := rfl
    simp only at g2 g3 g4
    have hv : v ≠ rd a.mem xn := hv
    have m1 : ({ a with mem := a.mem.set xn.toNat v } : Sta).mem.length = cellsS p.mems := by simpa using ha
    rw [e]
    refine ⟨?_, ?_, m1, rfl, rfl⟩
    all_goals rw [Bool.eq_iff_iff, lowS_iff hm (by first | exact ha | exact m1) (by first | exact ha | exact m1), g4]
    all_goals constructor
    all_goals first
      | (rintro ⟨_, _, _, h⟩
         refine Classical.byContradiction fun hn => ?_
         have := h xn ⟨g2, g3⟩ (by simpa using hn)
         rw [rd_set v ⟨g2, by omega⟩ g2, if_pos rfl] at this
         first | exact hv this | exact hv this.symm)
      | (intro h
         refine ⟨rfl, rfl, fun r hr hn => rfl, fun j hj hn => ?_⟩
         rw [rd_set v ⟨g2, by omega⟩ hj.1, if_neg (fun e => by rw [e, show secM p.mems xn = true from h] at hn; cases hn)])
theorem low_stack {p : Prg} {s t : Sta} (hm : Mems p.mems) (hs : s.mem.length = cellsS p.mems) (ht : t.mem.length = cellsS p.mems) (h : s.stack ≠ t.stack) : lowS p s t = false := by
  rw [Bool.eq_false_iff]
  intro hc
  exact h ((lowS_iff hm hs ht).1 hc).1
theorem xor1_ne {v : Int} (h0 : 0 ≤ v) (h1 : v < 65536) : bits .xor .i64 v 1 ≠ v := by
  obtain ⟨n, rfl⟩ := Int.eq_ofNat_of_zero_le h0
  have := bits_xorN n 1 (by omega) (by omega)
  rw [show ((1 : Nat) : Int) = 1 from rfl] at this
  rw [this]
  intro h
  have h2 : n ^^^ 1 = n := by exact_mod_cast h
  have h3 : n ^^^ (n ^^^ 1) = n ^^^ n := by rw [h2]
  rw [← Nat.xor_assoc, Nat.xor_self, Nat.zero_xor] at h3
  exact absurd h3 (by decide)
theorem WFM.toMems {p : Prg} (h : WFM p) : Mems p.mems := ⟨by have := h.mems.len; omega, fun m hm => by have := h.mems.n m hm; omega⟩
theorem l_ll0 (p : Prg) (a : Sta) (b0 b1 b2 b3 : Int) (M : List (List D)) (n : Nat) (mem : List Int) (hm : Mems p.mems) (hs : SmallS a) (hM : OnL M n mem) (hml : mem.length ≤ 1000000) (h1 : lowS p a a = true) (h2 : lowS p a ⟨b0, b1, b2, b3, mem, a.stack, a.pc⟩ = false) : (a_lLow.at_ 0 (F_ll0 p a b0 b1 b2 b3 M n)).holds s_lLow.cx a_lLow.rs (fun r => r.le (rb true)) := by
  refine at_of_round s_lLow_sound (m := 400) ?_
  rw [t_ll0]
  try simp only [asRows_sl, asInt_int, asBool_bool, asStr_str, listOf_rowsOn, List.drop_zero, Prg.eta, Sta.eta, rowsOn_length, getD_drop, Nat.reduceAdd, rd_int, rd_PMem_name, rd_PMem_secret, rd_PMem_n, rd_PLabel_name, rd_PLabel_at_, rd_Ins_kind, rd_Ins_op, rd_Ins_d, rd_Ins_aR, rd_Ins_aN, rd_Ins_bR, rd_Ins_bN, rd_Ins_name, rd_Ins_target, rd_Ent_pc, rd_Ent_val, rd_Ent_addr, rd_Ent_fro, rd_Ent_next, rd_Ent_done, rd_Ent_known, rd_Ent_fault, rd_Place_reg, rd_Place_n, rd_Place_secret, rd_Obs_kind, rd_Obs_at_, rd_Dir_kind, rd_Dir_n]
  obtain ⟨rfl, rfl⟩ := hM
  have hs2 := hs.2
  simp only [Prg.of_cells, Sta.of_cells, v_aLow]
  simp only [Sta.of, listOf_rowsOn, h1, h2]
  repeat' first
    | refine br_not ?_
    | refine br_dec (fun _ => ?_) (fun _ => ?_)
    | refine br_beq (fun _ => ?_) (fun _ => ?_)
    | refine br_bne (fun _ => ?_) (fun _ => ?_)
    | refine br_holds (fun _ => ?_) (fun _ => ?_)
    | refine ⟨PreOk.mk ?_ rfl, ?_⟩
    | refine ⟨idx_ok _ _ _ rfl (by omega) (by omega), ?_⟩
    | refine ⟨okSh_ok _ _ _ (fun _ => rfl) (by omega) (by omega), ?_⟩
    | refine ⟨okSh_okD _ _ _ _ (fun _ => rfl) (by omega) (by omega), ?_⟩
    | refine ⟨aload_ok _ _ rfl (fun _ => rfl) (by omega) (by omega), ?_⟩
    | refine ⟨aload_okD _ _ _ rfl (fun _ => rfl) (by omega) (by omega), ?_⟩
    | refine ⟨astore_ok (by assumption) rfl (by omega) (by omega) (by decide), ?_⟩
    | refine ⟨app_ok (by assumption) rfl rfl (by simp only [List.length_cons, List.length_nil]; omega), ?_⟩
    | refine need_holds ?_ fun _ => ?_
    | refine all_holds fun y hy => ?_
    | refine ret_le ?_
  all_goals try (first | exact ⟨hm, hs, hs⟩ | exact ⟨hm, hs, hml, hs2⟩ | exact trivial | exact RR.le_refl _ | simp_all)
theorem l_ll2 (p : Prg) (a : Sta) (b0 b1 b2 b3 : Int) (M : List (List D)) (n : Nat) (xr : Bool) (xn : Int) (xs : Bool) (mem : List Int) (hm : Mems p.mems) (hs : SmallS a) (hM : OnL M n mem) (hml : mem.length ≤ 1000000) (h1 : lowS p a ⟨b0, b1, b2, b3, mem, a.stack, a.pc⟩ = xs) (h2 : lowS p ⟨b0, b1, b2, b3, mem, a.stack, a.pc⟩ a = xs) (h3 : lowS p ⟨b0, b1, b2, b3, mem, a.stack, a.pc⟩ ⟨b0, b1, b2, b3, mem, [1], a.pc⟩ = false) (h4 : lowS p a ⟨b0, b1, b2, b3, mem, [1], a.pc⟩ = false) : (a_lLow.at_ 2 (F_ll1 p a b0 b1 b2 b3 M n xr xn xs)).holds s_lLow.cx a_lLow.rs (fun r => r.le (rb true)) := by
  refine at_of_round s_lLow_sound (m := 400) ?_
  rw [t_ll2]
  try simp only [asRows_sl, asInt_int, asBool_bool, asStr_str, listOf_rowsOn, List.drop_zero, Prg.eta, Sta.eta, rowsOn_length, getD_drop, Nat.reduceAdd, rd_int, rd_PMem_name, rd_PMem_secret, rd_PMem_n, rd_PLabel_name, rd_PLabel_at_, rd_Ins_kind, rd_Ins_op, rd_Ins_d, rd_Ins_aR, rd_Ins_aN, rd_Ins_bR, rd_Ins_bN, rd_Ins_name, rd_Ins_target, rd_Ent_pc, rd_Ent_val, rd_Ent_addr, rd_Ent_fro, rd_Ent_next, rd_Ent_done, rd_Ent_known, rd_Ent_fault, rd_Place_reg, rd_Place_n, rd_Place_secret, rd_Obs_kind, rd_Obs_at_, rd_Dir_kind, rd_Dir_n]
  obtain ⟨rfl, rfl⟩ := hM
  have hs2 := hs.2
  have e1 : D.sl [[D.int .i64 1]] = .sl (rowsOn [(1 : Int)]) := rfl
  simp only [Prg.of_cells, Sta.of_cells, v_aLow, e1]
  simp only [Sta.of, listOf_rowsOn, h1, h2, h3, h4]
  repeat' first
    | refine br_not ?_
    | refine br_dec (fun _ => ?_) (fun _ => ?_)
    | refine br_beq (fun _ => ?_) (fun _ => ?_)
    | refine br_bne (fun _ => ?_) (fun _ => ?_)
    | refine br_holds (fun _ => ?_) (fun _ => ?_)
    | refine ⟨PreOk.mk ?_ rfl, ?_⟩
    | refine ⟨idx_ok _ _ _ rfl (by omega) (by omega), ?_⟩
    | refine ⟨okSh_ok _ _ _ (fun _ => rfl) (by omega) (by omega), ?_⟩
    | refine ⟨okSh_okD _ _ _ _ (fun _ => rfl) (by omega) (by omega), ?_⟩
    | refine ⟨aload_ok _ _ rfl (fun _ => rfl) (by omega) (by omega), ?_⟩
    | refine ⟨aload_okD _ _ _ rfl (fun _ => rfl) (by omega) (by omega), ?_⟩
    | refine ⟨astore_ok (by assumption) rfl (by omega) (by omega) (by decide), ?_⟩
    | refine ⟨app_ok (by assumption) rfl rfl (by simp only [List.length_cons, List.length_nil]; omega), ?_⟩
    | refine need_holds ?_ fun _ => ?_
    | refine all_holds fun y hy => ?_
    | refine ret_le ?_
  all_goals try (first | exact ⟨hm, hs, hs⟩ | exact ⟨hm, hs, hml, hs2⟩ | exact ⟨hm, ⟨hml, hs2⟩, hs⟩ | exact ⟨hm, ⟨hml, hs2⟩, hml, by simp⟩ | exact ⟨hm, hs, hml, by simp⟩ | exact trivial | exact RR.le_refl _ | simp_all)
theorem l_ll1 (p : Prg) (a : Sta) (M : List (List D)) (n : Nat) (x : Place) (hm : Mems p.mems) (ha : a.mem.length = cellsS p.mems) (hss : a.stack = []) (hM : OnL M n a.mem) (hx : x ∈ placesS p) (hh : 0 ≤ holdP a x ∧ holdP a x < 65536) : (a_lLow.at_ 1 (F_ll1 p a a.r0 a.r1 a.r2 a.r3 M n x.reg x.n x.secret)).holds s_lLow.cx a_lLow.rs (fun r => r.le (rb true)) := by
  refine at_of_round s_lLow_sound (m := 400) ?_
  rw [t_ll1]
  try simp only [asRows_sl, asInt_int, asBool_bool, asStr_str, listOf_rowsOn, List.drop_zero, Prg.eta, Sta.eta, rowsOn_length, getD_drop, Nat.reduceAdd, rd_int, rd_PMem_name, rd_PMem_secret, rd_PMem_n, rd_PLabel_name, rd_PLabel_at_, rd_Ins_kind, rd_Ins_op, rd_Ins_d, rd_Ins_aR, rd_Ins_aN, rd_Ins_bR, rd_Ins_bN, rd_Ins_name, rd_Ins_target, rd_Ent_pc, rd_Ent_val, rd_Ent_addr, rd_Ent_fro, rd_Ent_next, rd_Ent_done, rd_Ent_known, rd_Ent_fault, rd_Place_reg, rd_Place_n, rd_Place_secret, rd_Obs_kind, rd_Obs_at_, rd_Dir_kind, rd_Dir_n]
  have hc := (places_len p hm).2
  have hs : SmallS a := ⟨by omega, by rw [hss]; decide⟩
  have hml : a.mem.length ≤ 1000000 := hs.1
  obtain ⟨g1, g2, g3, g4, g5⟩ := low_put hm ha hx (xor1_ne hh.1 hh.2)
  have hok := places_ok p hm x hx
  have hne : a.stack ≠ [1] := by rw [hss]; decide
  have g6 := low_stack (t := { putPlace a x (bits .xor .i64 (holdP a x) 1) with stack := [1] }) hm ha g3 hne
  have g7 := low_stack (t := { putPlace a x (bits .xor .i64 (holdP a x) 1) with stack := [1] }) hm g3 g3 (by rw [g4]; exact hne)
  obtain ⟨xr, xn, xs⟩ := x
  have hn := hM.2
  dsimp only at hok
  cases xr with
  | true =>
    have hok := hok.1 rfl
    dsimp only
    repeat' first
      | refine br_not ?_
      | refine br_dec (fun _ => ?_) (fun _ => ?_)
      | refine br_beq (fun _ => ?_) (fun _ => ?_)
      | refine br_bne (fun _ => ?_) (fun _ => ?_)
      | refine br_holds (fun _ => ?_) (fun _ => ?_)
      | refine ⟨PreOk.mk ?_ rfl, ?_⟩
      | refine ⟨idx_ok _ _ _ rfl (by omega) (by omega), ?_⟩
      | refine ⟨okSh_ok _ _ _ (fun _ => rfl) (by omega) (by omega), ?_⟩
      | refine ⟨okSh_okD _ _ _ _ (fun _ => rfl) (by omega) (by omega), ?_⟩
      | refine ⟨aload_ok _ _ rfl (fun _ => rfl) (by omega) (by omega), ?_⟩
      | refine ⟨aload_okD _ _ _ rfl (fun _ => rfl) (by omega) (by omega), ?_⟩
      | refine ⟨astore_ok (by assumption) rfl (by omega) (by omega) (by decide), ?_⟩
      | refine ⟨app_ok (by assumption) rfl rfl (by simp only [List.length_cons, List.length_nil]; omega), ?_⟩
      | refine need_holds ?_ fun _ => ?_
      | refine all_holds fun y hy => ?_
      | refine ret_le ?_
    all_goals try (exfalso; omega)
    all_goals subst xn
    all_goals exact l_ll2 p a _ _ _ _ M n true _ xs a.mem hm hs hM hml g1 g2 g7 g6
  | false =>
    have hok := hok.2 rfl
    dsimp only
    simp only [VC.br]
    repeat' first
      | refine br_not ?_
      | refine br_dec (fun _ => ?_) (fun _ => ?_)
      | refine br_beq (fun _ => ?_) (fun _ => ?_)
      | refine br_bne (fun _ => ?_) (fun _ => ?_)
      | refine br_holds (fun _ => ?_) (fun _ => ?_)
      | refine ⟨PreOk.mk ?_ rfl, ?_⟩
      | refine ⟨idx_ok _ _ _ rfl (by omega) (by omega), ?_⟩
      | refine ⟨okSh_ok _ _ _ (fun _ => rfl) (by omega) (by omega), ?_⟩
      | refine ⟨okSh_okD _ _ _ _ (fun _ => rfl) (by omega) (by omega), ?_⟩
      | refine ⟨aload_ok _ _ rfl (fun _ => rfl) (by omega) (by omega), ?_⟩
      | refine ⟨aload_okD _ _ _ rfl (fun _ => rfl) (by omega) (by omega), ?_⟩
      | refine ⟨astore_ok (by assumption) rfl (by omega) (by omega) (by decide), ?_⟩
      | refine ⟨app_ok (by assumption) rfl rfl (by simp only [List.length_cons, List.length_nil]; omega), ?_⟩
      | refine need_holds ?_ fun _ => ?_
      | refine all_holds fun y hy => ?_
      | refine ret_le ?_
    · omega
    · obtain ⟨rfl, rfl⟩ := hM
      rw [rowsOn_length]
      exact aload_ok a.mem xn rfl (fun _ => rfl) (by omega) (by omega)
    · omega
    · have e : asInt (List.getD (rowAt M (Int.toNat xn)) 0 .nilp) = rd a.mem xn := by rw [hM.1]; exact rd_int _ _
      rw [e]
      exact l_ll2 p a _ _ _ _ _ n false xn xs _ hm hs (hM.set hok.1 (by omega) (bits .xor .i64 (rd a.mem xn) 1)) (by simpa using hml) g1 g2 g7 g6
theorem low_none {p : Prg} {a b : Sta} (hm : Mems p.mems) (hq : (placesS p).length = 0) (ha : a.mem.length = cellsS p.mems) (hb : b.mem.length = cellsS p.mems) {r : Int} (hr : 0 ≤ r ∧ r < 4) (hne : a.reg r ≠ b.reg r) : lowS p a b = false := by
  rw [Bool.eq_false_iff]
  intro hc
  have h1 := ((lowS_iff hm ha hb).1 hc).2.2.1 r hr
  have h2 : p.reg r = 0 := Classical.byContradiction fun h => by
    have := (mem_places p hm ⟨true, r, decide (p.reg r = 2)⟩).2 (.inl ⟨rfl, hr.1, hr.2, h, rfl⟩)
    rw [List.eq_nil_of_length_eq_zero hq] at this
    cases this
  exact hne (h1 (by omega))
theorem low_self {p : Prg} {a : Sta} (hm : Mems p.mems) (ha : a.mem.length = cellsS p.mems) : lowS p a a = true := (lowS_iff hm ha ha).2 ⟨rfl, rfl, fun _ _ _ => rfl, fun _ _ _ => rfl⟩
theorem noplace_reg {p : Prg} (hm : Mems p.mems) (hq : (placesS p).length = 0) {r : Int} (hr : 0 ≤ r ∧ r < 4) : p.reg r = 0 := Classical.byContradiction fun h => by
  have := (mem_places p hm ⟨true, r, decide (p.reg r = 2)⟩).2 (.inl ⟨rfl, hr.1, hr.2, h, rfl⟩)
  rw [List.eq_nil_of_length_eq_zero hq] at this
  cases this
theorem wrap_succ0 {v : Int} (h : v = 0) : v ≠ IntKind.wrap .i64 (v + 1) := by subst h; decide
theorem tmod_range {a : Int} {n : Nat} (ha : 0 ≤ a) (hn : n ≠ 0) : 0 ≤ Int.tmod a n ∧ Int.tmod a n < n := ⟨Int.tmod_nonneg _ ha, Int.tmod_lt_of_pos a (show (0 : Int) < (n : Int) by omega)⟩
theorem c_lLow_good : c_lLow.fe.Good Try.prog := by
  refine FT.good c_lLow ⟨Try.f9, by kernel_rfl, by decide +kernel, by kernel_rfl⟩ (fun ⟨m, l, which⟩ => by first | rfl | simp [c_lLow, rrRef, rplaces, Sta.fresh]) fun ⟨m, l, which⟩ hp => ?_
  refine acalls_le s_lLow_sound (fn := Try.f9) (a := a_lLow) (nargs := 3) (tbl := [(1000000015, [7, 8, 10]), (1000000017, [7, 8, 10, 12]), (1000000020, [7, 8, 10, 12])]) (by kernel_rfl) (by kernel_rfl) rfl (m := 400) ?_
  show VC.holds _ _ _ (a_lLow.start s_lLow 400 [al m, al l, ai which])
  rw [t_lLow]
  try simp only [asRows_sl, asInt_int, asBool_bool, asStr_str, listOf_rowsOn, List.drop_zero, Prg.eta, Sta.eta, rowsOn_length, getD_drop, Nat.reduceAdd, rd_int, rd_PMem_name, rd_PMem_secret, rd_PMem_n, rd_PLabel_name, rd_PLabel_at_, rd_Ins_kind, rd_Ins_op, rd_Ins_d, rd_Ins_aR, rd_Ins_aN, rd_Ins_bR, rd_Ins_bN, rd_Ins_name, rd_Ins_target, rd_Ent_pc, rd_Ent_val, rd_Ent_addr, rd_Ent_fro, rd_Ent_next, rd_Ent_done, rd_Ent_known, rd_Ent_fault, rd_Place_reg, rd_Place_n, rd_Place_secret, rd_Obs_kind, rd_Obs_at_, rd_Dir_kind, rd_Dir_n]
  try simp only [c_lLow] at hp
  refine ⟨PreOk.mk trivial rfl, all_holds fun p hp0 => ?_⟩
  have hw : WFM p := by rw [hp0]; exact (makeS_spec _).1
  have hm := hw.toMems
  refine ⟨PreOk.mk (by show Mems (Prg.of p.cells).mems; rw [Prg.of_cells]; exact hm) (by simp only [Prg.of_cells]; rfl), all_holds fun s2 hs2 => ?_⟩
  simp only [Prg.of_cells] at hs2
  obtain ⟨a, h0, ha, hss, hpc, hh, hz⟩ := start_hold p hm _ (told_len (placesS p).length (padF l) (placesS p).length)
  have e1 : s2.fst = a := by rw [hs2]; exact congrArg Prod.fst h0
  rw [e1]
  have hc := places_len p hm
  have hs : SmallS a := ⟨by omega, by rw [hss]; decide⟩
  have hml : a.mem.length ≤ 1000000 := hs.1
  have hd : 0 ≤ bits .and .i64 which 255 := by rw [and255]; omega
  have h3 : 0 ≤ bits .and .i64 which 3 ∧ bits .and .i64 which 3 < 4 := by rw [and3]; omega
  have haa := low_self hm ha
  repeat' first
    | refine br_not ?_
    | refine br_dec (fun _ => ?_) (fun _ => ?_)
    | refine br_beq (fun _ => ?_) (fun _ => ?_)
    | refine br_bne (fun _ => ?_) (fun _ => ?_)
    | refine br_holds (fun _ => ?_) (fun _ => ?_)
    | refine ⟨PreOk.mk ?_ rfl, ?_⟩
    | refine ⟨idx_ok _ _ _ rfl (by omega) (by omega), ?_⟩
    | refine ⟨okSh_ok _ _ _ (fun _ => rfl) (by omega) (by omega), ?_⟩
    | refine ⟨okSh_okD _ _ _ _ (fun _ => rfl) (by omega) (by omega), ?_⟩
    | refine ⟨aload_ok _ _ rfl (fun _ => rfl) (by omega) (by omega), ?_⟩
    | refine ⟨aload_okD _ _ _ rfl (fun _ => rfl) (by omega) (by omega), ?_⟩
    | refine ⟨astore_ok (by assumption) rfl (by omega) (by omega) (by decide), ?_⟩
    | refine ⟨app_ok (by assumption) rfl rfl (by simp only [List.length_cons, List.length_nil]; omega), ?_⟩
    | refine need_holds ?_ fun _ => ?_
    | refine all_holds fun y hy => ?_
    | refine ret_le ?_
  all_goals try exact hm
  all_goals try omega
  all_goals try (exfalso; omega)
  all_goals try (have hy : ‹List Place› = placesS p := ‹_›; subst hy)
  · exact ⟨rowsOn_all a.mem 1 rfl, rfl, by omega⟩
  · have hq : (placesS p).length = 0 := by omega
    exact l_ll0 p a _ _ _ _ _ _ a.mem hm hs ⟨rfl, by simp⟩ hml haa (low_none hm hq ha ha (r := 0) (by decide) (wrap_succ0 (hz 0 (by decide) (noplace_reg hm hq (by decide)))))
  · have hq : (placesS p).length = 0 := by omega
    exact l_ll0 p a _ _ _ _ _ _ a.mem hm hs ⟨rfl, by simp⟩ hml haa (low_none hm hq ha ha (r := 1) (by decide) (wrap_succ0 (hz 1 (by decide) (noplace_reg hm hq (by decide)))))
  · have hq : (placesS p).length = 0 := by omega
    exact l_ll0 p a _ _ _ _ _ _ a.mem hm hs ⟨rfl, by simp⟩ hml haa (low_none hm hq ha ha (r := 2) (by decide) (wrap_succ0 (hz 2 (by decide) (noplace_reg hm hq (by decide)))))
  · have hq : (placesS p).length = 0 := by omega
    exact l_ll0 p a _ _ _ _ _ _ a.mem hm hs ⟨rfl, by simp⟩ hml haa (low_none hm hq ha ha (r := 3) (by decide) (wrap_succ0 (hz 3 (by decide) (noplace_reg hm hq (by decide)))))
  · exact tmod_range hd (by omega)
  · have hr := tmod_range (n := (placesS p).length) hd (by omega)
    generalize Int.tmod (bits .and .i64 which 255) ((placesS p).length : Int) = k at hr ⊢
    have hx : rd (placesS p) k = (placesS p)[k.toNat]'(by omega) := by
      have := rd_lt (placesS p) k.toNat (by omega)
      rwa [show ((k.toNat : Nat) : Int) = k from by omega] at this
    refine l_ll1 p a _ _ _ hm ha hss ⟨rfl, by simp⟩ (rd_mem _ k hr.1 hr.2) ?_
    rw [hx, hh k.toNat (by omega)]
    exact maskS_range _ _
end Go.Proofs.Ytclabjihjopclaa.Ax
