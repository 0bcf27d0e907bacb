/- The statement SeqmTells. -/
import Derived.Test.YtclabjihjopclaaF18
namespace Go.Proofs.Ytclabjihjopclaa.Ax
open Go.RowKit
set_option linter.unusedVariables false
set_option linter.unusedSimpArgs false
def rdSTl : List A → List Int × List Int × Int × List Int × Int × Int
  | [.c (.sl l), .c (.sl m), .c (.int _ i), .c (.sl k), .c (.int _ n), .c (.int _ w)] => (listOf Int l, listOf Int m, i, listOf Int k, n, w)
  | _ => default
def c_lTells8 : FT (List Int × List Int × Int × List Int × Int × Int) := ⟨16, fun x => [al x.1, al x.2.1, ai x.2.2.1, al x.2.2.2.1, ai x.2.2.2.2.1, ai x.2.2.2.2.2], rdSTl, fun _ => True, fun x => rb true, false, fun x => by simp [al, ai, rdSTl]⟩
noncomputable def a_lTells8 : FnA := (fnA Try.prog Try.f16 6 [(5, [2, 3, 4, 5, 13, 14, 16, 3000896005000900011001]), (9, [2, 4, 5, 13, 14, 17, 3000896005000900011001])]).getD ⟨0, .skip, [], []⟩
noncomputable def s_lTells8 : Sp := spT [c_make.gfe v_make sh_make e_make, c_states.gfe v_states sh_states e_states, c_step.gfe v_step sh_step e_step, c_rStep.gfe v_rStep sh_rStep e_rStep, c_run.gfe v_run sh_run e_run, c_rRun.gfe v_rRun sh_rRun e_rRun, c_rSame.gfe v_rSame sh_rSame e_rSame, c_rSameO.gfe v_rSameO sh_rSameO e_rSameO, c_sAt.gfe v_sAt sh_sAt e_sAt, c_rAt.gfe v_rAt sh_rAt e_rAt, c_awake8.fe]
theorem s_lTells8_sound : s_lTells8.sound Try.prog := spT_sound fun e he => by
  simp only [List.mem_cons, List.not_mem_nil, or_false] at he
  rcases he with rfl | rfl | rfl | rfl | rfl | rfl | rfl | rfl | rfl | rfl | rfl
  · exact FT.gfe_good c_make_good
  · exact FT.gfe_good c_states_good
  · exact FT.gfe_good c_step_good
  · exact FT.gfe_good c_rStep_good
  · exact FT.gfe_good c_run_good
  · exact FT.gfe_good c_rRun_good
  · exact FT.gfe_good c_rSame_good
  · exact FT.gfe_good c_rSameO_good
  · exact FT.gfe_good c_sAt_good
  · exact FT.gfe_good c_rAt_good
  · exact c_awake8_good
def Z_lt (p : Prg) (w : Int) (a : Sta) (ks : Nat) (fz : Bool) (S : List (List D)) : List (Nat × Blk) := [(832, bc [.d (.int .i64 w), .d (.int .i64 p.window), .d (.int .i64 p.fuel), .d (.int .i64 p.r0), .d (.int .i64 p.r1), .d (.int .i64 p.r2), .d (.int .i64 p.r3), .d (.sl (rowsOn p.mems)), .d (.sl (rowsOn p.labels)), .d (.sl (rowsOn p.ins))]), (896, bc [.d (.int .i64 a.r0), .d (.int .i64 a.r1), .d (.int .i64 a.r2), .d (.int .i64 a.r3), .own 2052 1 (rowsOn a.mem).length, .own 900011 1 ks, .d (.int .i64 a.pc)]), (2052, ⟨1, fz, .arr 1 (rowsOn a.mem)⟩), (900011, ⟨1, fz, .arr 1 S⟩)]
def F_lt0 (p : Prg) (a : Sta) (pc : Int) (stk : List Int) (n w : Int) (S : List (List D)) (ks : Nat) (k : Int) : St := ⟨mkS 161 [(2, vi pc), (3, vr (rowsOn stk)), (4, vi n), (5, vi w), (13, vp 832), (14, vp 896), (16, vi k)], Z_lt p p.w a ks false S⟩
def F_lt1 (p : Prg) (v : Int) (a : Sta) (pc n w : Int) (S : List (List D)) (ks : Nat) (fz : Bool) (q : Int) : St := ⟨mkS 161 [(2, vi pc), (4, vi n), (5, vi w), (13, vp 832), (14, vp 896), (17, vi q)], Z_lt p v a ks fz S⟩
set_option maxRecDepth 100000 in
theorem t_lTells8 (m l : List Int) (pc : Int) (stk : List Int) (n w : Int) : a_lTells8.start s_lTells8 400 [al m, al l, ai pc, al stk, ai n, ai w] =
(VC.need (PreOk c_make (m, ()) [A.c (D.sl (rowsOn m))])
(VC.all (v_make (listOf Int (rowsOn m), ())) fun (y6 : Prg) =>
(VC.need (PreOk c_states (Prg.of (Prg.cells y6), l, n) [A.agg (Prg.cells y6), A.c (D.sl (rowsOn l)), A.c (D.int IntKind.i64 n)])
(VC.all (((startS (Prg.of (Prg.cells y6)) (toldS (List.length (placesS (Prg.of (Prg.cells y6)))) (padF (listOf Int (rowsOn l))) (List.length (placesS (Prg.of (Prg.cells y6)))))).fst, (startS (Prg.of (Prg.cells y6)) (toldS (List.length (placesS (Prg.of (Prg.cells y6)))) (twinF n (placesS (Prg.of (Prg.cells y6))) (listOf Int (rowsOn l))) (List.length (placesS (Prg.of (Prg.cells y6)))))).fst)) fun (y7 : Sta × Sta) =>
(VC.need (IntKind.wrap IntKind.i64 ((↑(List.length (rowsOn y6.ins)) : Int) + (2 : Int)) ≠ (0 : Int))
(FnA.at_ a_lTells8 0 ⟨mkS 161 [(2, AV.c (Cl.d (D.int IntKind.i64 pc))), (3, AV.c (Cl.d (D.sl (rowsOn stk)))), (4, AV.c (Cl.d (D.int IntKind.i64 n))), (5, AV.c (Cl.d (D.int IntKind.i64 w))), (13, AV.c (Cl.bptr (832 : Nat) (1 : Nat) (0 : Nat))), (14, AV.c (Cl.bptr (896 : Nat) (1 : Nat) (0 : Nat))), (16, AV.c (Cl.d (D.int IntKind.i64 (0 : Int))))], [((832 : Nat), { g := (1 : Nat), fz := false, k := BK.box [Cl.d (D.int IntKind.i64 y6.w), Cl.d (D.int IntKind.i64 y6.window), Cl.d (D.int IntKind.i64 y6.fuel), Cl.d (D.int IntKind.i64 y6.r0), Cl.d (D.int IntKind.i64 y6.r1), Cl.d (D.int IntKind.i64 y6.r2), Cl.d (D.int IntKind.i64 y6.r3), Cl.d (D.sl (rowsOn y6.mems)), Cl.d (D.sl (rowsOn y6.labels)), Cl.d (D.sl (rowsOn y6.ins))] }), ((896 : Nat), { g := (1 : Nat), fz := false, k := BK.box [Cl.d (D.int IntKind.i64 y7.fst.r0), Cl.d (D.int IntKind.i64 y7.fst.r1), Cl.d (D.int IntKind.i64 y7.fst.r2), Cl.d (D.int IntKind.i64 y7.fst.r3), Cl.own (2052 : Nat) (1 : Nat) (List.length (rowsOn y7.fst.mem)), Cl.own (900011 : Nat) (1 : Nat) (List.length (rowsOn y7.fst.stack)), Cl.d (D.int IntKind.i64 (IntKind.wrap IntKind.i64 (Int.tmod (bits BinOp.and IntKind.i64 pc (255 : Int)) (IntKind.wrap IntKind.i64 ((↑(List.length (rowsOn y6.ins)) : Int) + (2 : Int))) - (1 : Int))))] }), ((2052 : Nat), { g := (1 : Nat), fz := false, k := BK.arr (1 : Nat) (rowsOn y7.fst.mem) }), ((900011 : Nat), { g := (1 : Nat), fz := false, k := BK.arr (1 : Nat) (rowsOn y7.fst.stack) })]⟩)))))) := by kernel_rfl
set_option maxRecDepth 100000 in
theorem t_lt0 (p : Prg) (a : Sta) (pc : Int) (stk : List Int) (n w : Int) (S : List (List D)) (ks : Nat) (k : Int) : a_lTells8.round s_lTells8 400 0 (F_lt0 p a pc stk n w S ks k) =
(VC.br (decide (k < (↑(List.length (rowsOn stk)) : Int)))
 (VC.br (decide (k < (4 : Int)))
  (VC.need ((0 : Int) ≤ k ∧ k < (↑(List.length (rowsOn stk)) : Int) ∧ List.length (rowAt (rowsOn stk) (Int.toNat k)) = (1 : Nat))
  (VC.need (okSh [Kd.int IntKind.i64] (rowAt (rowsOn stk) (Int.toNat k)))
  (VC.need (IntKind.wrap IntKind.i64 ((↑(List.length (rowsOn p.ins)) : Int) + (1 : Int)) ≠ (0 : Int))
  (VC.need ((List.all [[D.int IntKind.i64 (Int.tmod (bits BinOp.and IntKind.i64 (asInt (List.getD (rowAt (rowsOn stk) (Int.toNat k)) (0 : Nat) D.nilp)) (255 : Int)) (IntKind.wrap IntKind.i64 ((↑(List.length (rowsOn p.ins)) : Int) + (1 : Int))))]] fun r ↦ List.length r == (1 : Nat)) = true ∧ (List.all S fun r ↦ List.length r == (1 : Nat)) = true ∧ (List.length S + List.length [[D.int IntKind.i64 (Int.tmod (bits BinOp.and IntKind.i64 (asInt (List.getD (rowAt (rowsOn stk) (Int.toNat k)) (0 : Nat) D.nilp)) (255 : Int)) (IntKind.wrap IntKind.i64 ((↑(List.length (rowsOn p.ins)) : Int) + (1 : Int))))]] + (100 : Nat)) * (9 : Nat) ≤ (70368744177664 : Nat))
  (FnA.at_ a_lTells8 0 (F_lt0 p a pc stk n w (S ++ [[D.int IntKind.i64 (Int.tmod (bits BinOp.and IntKind.i64 (asInt (List.getD (rowAt (rowsOn stk) (Int.toNat k)) (0 : Nat) D.nilp)) (255 : Int)) (IntKind.wrap IntKind.i64 ((↑(List.length (rowsOn p.ins)) : Int) + (1 : Int))))]]) (List.length S + List.length [[D.int IntKind.i64 (Int.tmod (bits BinOp.and IntKind.i64 (asInt (List.getD (rowAt (rowsOn stk) (Int.toNat k)) (0 : Nat) D.nilp)) (255 : Int)) (IntKind.wrap IntKind.i64 ((↑(List.length (rowsOn p.ins)) : Int) + (1 : Int))))]]) (IntKind.wrap IntKind.i64 (k + (1 : Int)))))))))
  (FnA.at_ a_lTells8 1 (F_lt1 p p.w a pc n w S ks false (0 : Int))))
 (FnA.at_ a_lTells8 1 (F_lt1 p p.w a pc n w S ks false (0 : Int)))) := by kernel_rfl
set_option maxRecDepth 100000 in
theorem t_lt1 (p : Prg) (v : Int) (a : Sta) (pc n w : Int) (st : List Int) (fz : Bool) (q : Int) : a_lTells8.round s_lTells8 400 1 (F_lt1 p v a pc n w (rowsOn st) (rowsOn st).length fz q) =
(VC.br (decide (q < (2 : Int)))
 (VC.need (PreOk c_step (Prg.of [D.int IntKind.i64 v, D.int IntKind.i64 p.window, D.int IntKind.i64 p.fuel, D.int IntKind.i64 p.r0, D.int IntKind.i64 p.r1, D.int IntKind.i64 p.r2, D.int IntKind.i64 p.r3, D.sl (rowsOn p.mems), D.sl (rowsOn p.labels), D.sl (rowsOn p.ins)], Sta.of [D.int IntKind.i64 a.r0, D.int IntKind.i64 a.r1, D.int IntKind.i64 a.r2, D.int IntKind.i64 a.r3, D.sl (rowsOn a.mem), D.sl (rowsOn st), D.int IntKind.i64 a.pc]) [A.agg [D.int IntKind.i64 v, D.int IntKind.i64 p.window, D.int IntKind.i64 p.fuel, D.int IntKind.i64 p.r0, D.int IntKind.i64 p.r1, D.int IntKind.i64 p.r2, D.int IntKind.i64 p.r3, D.sl (rowsOn p.mems), D.sl (rowsOn p.labels), D.sl (rowsOn p.ins)], A.agg [D.int IntKind.i64 a.r0, D.int IntKind.i64 a.r1, D.int IntKind.i64 a.r2, D.int IntKind.i64 a.r3, D.sl (rowsOn a.mem), D.sl (rowsOn st), D.int IntKind.i64 a.pc]])
 (VC.all (v_step (Prg.of [D.int IntKind.i64 v, D.int IntKind.i64 p.window, D.int IntKind.i64 p.fuel, D.int IntKind.i64 p.r0, D.int IntKind.i64 p.r1, D.int IntKind.i64 p.r2, D.int IntKind.i64 p.r3, D.sl (rowsOn p.mems), D.sl (rowsOn p.labels), D.sl (rowsOn p.ins)], Sta.of [D.int IntKind.i64 a.r0, D.int IntKind.i64 a.r1, D.int IntKind.i64 a.r2, D.int IntKind.i64 a.r3, D.sl (rowsOn a.mem), D.sl (rowsOn st), D.int IntKind.i64 a.pc])) fun (y9 : Sta × List Obs × Int) =>
 (VC.need (PreOk c_rStep (Prg.of [D.int IntKind.i64 v, D.int IntKind.i64 p.window, D.int IntKind.i64 p.fuel, D.int IntKind.i64 p.r0, D.int IntKind.i64 p.r1, D.int IntKind.i64 p.r2, D.int IntKind.i64 p.r3, D.sl (rowsOn p.mems), D.sl (rowsOn p.labels), D.sl (rowsOn p.ins)], Sta.of [D.int IntKind.i64 a.r0, D.int IntKind.i64 a.r1, D.int IntKind.i64 a.r2, D.int IntKind.i64 a.r3, D.sl (rowsOn a.mem), D.sl (rowsOn st), D.int IntKind.i64 a.pc]) [A.agg [D.int IntKind.i64 v, D.int IntKind.i64 p.window, D.int IntKind.i64 p.fuel, D.int IntKind.i64 p.r0, D.int IntKind.i64 p.r1, D.int IntKind.i64 p.r2, D.int IntKind.i64 p.r3, D.sl (rowsOn p.mems), D.sl (rowsOn p.labels), D.sl (rowsOn p.ins)], A.agg [D.int IntKind.i64 a.r0, D.int IntKind.i64 a.r1, D.int IntKind.i64 a.r2, D.int IntKind.i64 a.r3, D.sl (rowsOn a.mem), D.sl (rowsOn st), D.int IntKind.i64 a.pc]])
 (VC.all (v_rStep (Prg.of [D.int IntKind.i64 v, D.int IntKind.i64 p.window, D.int IntKind.i64 p.fuel, D.int IntKind.i64 p.r0, D.int IntKind.i64 p.r1, D.int IntKind.i64 p.r2, D.int IntKind.i64 p.r3, D.sl (rowsOn p.mems), D.sl (rowsOn p.labels), D.sl (rowsOn p.ins)], Sta.of [D.int IntKind.i64 a.r0, D.int IntKind.i64 a.r1, D.int IntKind.i64 a.r2, D.int IntKind.i64 a.r3, D.sl (rowsOn a.mem), D.sl (rowsOn st), D.int IntKind.i64 a.pc])) fun (y10 : Sta × List Obs × Int) =>
 (VC.br (y9.snd.snd != y10.snd.snd)
  (VC.ret (some (RR.c (Rc.d (D.bool false)))))
  (VC.need (PreOk c_rSame (Sta.of (Sta.cells y9.fst), Sta.of (Sta.cells y10.fst)) [A.agg (Sta.cells y9.fst), A.agg (Sta.cells y10.fst)])
  (VC.all (v_rSame (Sta.of (Sta.cells y9.fst), Sta.of (Sta.cells y10.fst))) fun (y11 : Bool) =>
  (VC.br (!y11)
   (VC.ret (some (RR.c (Rc.d (D.bool false)))))
   (VC.need (PreOk c_rSameO (y9.snd.fst, y10.snd.fst) [A.c (D.sl (rowsOn y9.snd.fst)), A.c (D.sl (rowsOn y10.snd.fst))])
   (VC.all (v_rSameO (listOf Obs (rowsOn y9.snd.fst), listOf Obs (rowsOn y10.snd.fst))) fun (y12 : Bool) =>
   (VC.br (!y12)
    (VC.ret (some (RR.c (Rc.d (D.bool false)))))
    (VC.need (PreOk c_sAt (Prg.of [D.int IntKind.i64 v, D.int IntKind.i64 p.window, D.int IntKind.i64 p.fuel, D.int IntKind.i64 p.r0, D.int IntKind.i64 p.r1, D.int IntKind.i64 p.r2, D.int IntKind.i64 p.r3, D.sl (rowsOn p.mems), D.sl (rowsOn p.labels), D.sl (rowsOn p.ins)], pc) [A.agg [D.int IntKind.i64 v, D.int IntKind.i64 p.window, D.int IntKind.i64 p.fuel, D.int IntKind.i64 p.r0, D.int IntKind.i64 p.r1, D.int IntKind.i64 p.r2, D.int IntKind.i64 p.r3, D.sl (rowsOn p.mems), D.sl (rowsOn p.labels), D.sl (rowsOn p.ins)], A.c (D.int IntKind.i64 pc)])
    (VC.all (v_sAt (Prg.of [D.int IntKind.i64 v, D.int IntKind.i64 p.window, D.int IntKind.i64 p.fuel, D.int IntKind.i64 p.r0, D.int IntKind.i64 p.r1, D.int IntKind.i64 p.r2, D.int IntKind.i64 p.r3, D.sl (rowsOn p.mems), D.sl (rowsOn p.labels), D.sl (rowsOn p.ins)], pc)) fun (y13 : Ins) =>
    (VC.need (PreOk c_rAt (Prg.of [D.int IntKind.i64 v, D.int IntKind.i64 p.window, D.int IntKind.i64 p.fuel, D.int IntKind.i64 p.r0, D.int IntKind.i64 p.r1, D.int IntKind.i64 p.r2, D.int IntKind.i64 p.r3, D.sl (rowsOn p.mems), D.sl (rowsOn p.labels), D.sl (rowsOn p.ins)], pc) [A.agg [D.int IntKind.i64 v, D.int IntKind.i64 p.window, D.int IntKind.i64 p.fuel, D.int IntKind.i64 p.r0, D.int IntKind.i64 p.r1, D.int IntKind.i64 p.r2, D.int IntKind.i64 p.r3, D.sl (rowsOn p.mems), D.sl (rowsOn p.labels), D.sl (rowsOn p.ins)], A.c (D.int IntKind.i64 pc)])
    (VC.all (v_rAt (Prg.of [D.int IntKind.i64 v, D.int IntKind.i64 p.window, D.int IntKind.i64 p.fuel, D.int IntKind.i64 p.r0, D.int IntKind.i64 p.r1, D.int IntKind.i64 p.r2, D.int IntKind.i64 p.r3, D.sl (rowsOn p.mems), D.sl (rowsOn p.labels), D.sl (rowsOn p.ins)], pc)) fun (y14 : Ins) =>
    (VC.br (if true = true then !(y13.kind == y14.kind && (y13.op == y14.op && (y13.d == y14.d && (y13.aR == y14.aR && (y13.aN == y14.aN && (y13.bR == y14.bR && (y13.bN == y14.bN && (ByteArray.toList y13.name == ByteArray.toList y14.name && (y13.target == y14.target && true))))))))) else y13.kind == y14.kind && (y13.op == y14.op && (y13.d == y14.d && (y13.aR == y14.aR && (y13.aN == y14.aN && (y13.bR == y14.bR && (y13.bN == y14.bN && (ByteArray.toList y13.name == ByteArray.toList y14.name && (y13.target == y14.target && true)))))))))
     (VC.ret (some (RR.c (Rc.d (D.bool false)))))
     (VC.need (PreOk c_run (Prg.of [D.int IntKind.i64 v, D.int IntKind.i64 p.window, D.int IntKind.i64 p.fuel, D.int IntKind.i64 p.r0, D.int IntKind.i64 p.r1, D.int IntKind.i64 p.r2, D.int IntKind.i64 p.r3, D.sl (rowsOn p.mems), D.sl (rowsOn p.labels), D.sl (rowsOn p.ins)], Sta.of [D.int IntKind.i64 a.r0, D.int IntKind.i64 a.r1, D.int IntKind.i64 a.r2, D.int IntKind.i64 a.r3, D.sl (rowsOn a.mem), D.sl (rowsOn st), D.int IntKind.i64 a.pc], IntKind.wrap IntKind.i64 (bits BinOp.and IntKind.i64 n (63 : Int) - (2 : Int))) [A.agg [D.int IntKind.i64 v, D.int IntKind.i64 p.window, D.int IntKind.i64 p.fuel, D.int IntKind.i64 p.r0, D.int IntKind.i64 p.r1, D.int IntKind.i64 p.r2, D.int IntKind.i64 p.r3, D.sl (rowsOn p.mems), D.sl (rowsOn p.labels), D.sl (rowsOn p.ins)], A.agg [D.int IntKind.i64 a.r0, D.int IntKind.i64 a.r1, D.int IntKind.i64 a.r2, D.int IntKind.i64 a.r3, D.sl (rowsOn a.mem), D.sl (rowsOn st), D.int IntKind.i64 a.pc], A.c (D.int IntKind.i64 (IntKind.wrap IntKind.i64 (bits BinOp.and IntKind.i64 n (63 : Int) - (2 : Int))))])
     (VC.all (v_run (Prg.of [D.int IntKind.i64 v, D.int IntKind.i64 p.window, D.int IntKind.i64 p.fuel, D.int IntKind.i64 p.r0, D.int IntKind.i64 p.r1, D.int IntKind.i64 p.r2, D.int IntKind.i64 p.r3, D.sl (rowsOn p.mems), D.sl (rowsOn p.labels), D.sl (rowsOn p.ins)], Sta.of [D.int IntKind.i64 a.r0, D.int IntKind.i64 a.r1, D.int IntKind.i64 a.r2, D.int IntKind.i64 a.r3, D.sl (rowsOn a.mem), D.sl (rowsOn st), D.int IntKind.i64 a.pc], IntKind.wrap IntKind.i64 (bits BinOp.and IntKind.i64 n (63 : Int) - (2 : Int)))) fun (y15 : Sta × List Obs × Int × Int) =>
     (VC.need (PreOk c_rRun (Prg.of [D.int IntKind.i64 v, D.int IntKind.i64 p.window, D.int IntKind.i64 p.fuel, D.int IntKind.i64 p.r0, D.int IntKind.i64 p.r1, D.int IntKind.i64 p.r2, D.int IntKind.i64 p.r3, D.sl (rowsOn p.mems), D.sl (rowsOn p.labels), D.sl (rowsOn p.ins)], Sta.of [D.int IntKind.i64 a.r0, D.int IntKind.i64 a.r1, D.int IntKind.i64 a.r2, D.int IntKind.i64 a.r3, D.sl (rowsOn a.mem), D.sl (rowsOn st), D.int IntKind.i64 a.pc], IntKind.wrap IntKind.i64 (bits BinOp.and IntKind.i64 n (63 : Int) - (2 : Int))) [A.agg [D.int IntKind.i64 v, D.int IntKind.i64 p.window, D.int IntKind.i64 p.fuel, D.int IntKind.i64 p.r0, D.int IntKind.i64 p.r1, D.int IntKind.i64 p.r2, D.int IntKind.i64 p.r3, D.sl (rowsOn p.mems), D.sl (rowsOn p.labels), D.sl (rowsOn p.ins)], A.agg [D.int IntKind.i64 a.r0, D.int IntKind.i64 a.r1, D.int IntKind.i64 a.r2, D.int IntKind.i64 a.r3, D.sl (rowsOn a.mem), D.sl (rowsOn st), D.int IntKind.i64 a.pc], A.c (D.int IntKind.i64 (IntKind.wrap IntKind.i64 (bits BinOp.and IntKind.i64 n (63 : Int) - (2 : Int))))])
     (VC.all (v_rRun (Prg.of [D.int IntKind.i64 v, D.int IntKind.i64 p.window, D.int IntKind.i64 p.fuel, D.int IntKind.i64 p.r0, D.int IntKind.i64 p.r1, D.int IntKind.i64 p.r2, D.int IntKind.i64 p.r3, D.sl (rowsOn p.mems), D.sl (rowsOn p.labels), D.sl (rowsOn p.ins)], Sta.of [D.int IntKind.i64 a.r0, D.int IntKind.i64 a.r1, D.int IntKind.i64 a.r2, D.int IntKind.i64 a.r3, D.sl (rowsOn a.mem), D.sl (rowsOn st), D.int IntKind.i64 a.pc], IntKind.wrap IntKind.i64 (bits BinOp.and IntKind.i64 n (63 : Int) - (2 : Int)))) fun (y16 : Sta × List Obs × Int × Int) =>
     (VC.br (y15.snd.snd.snd != y16.snd.snd.snd)
      (VC.ret (some (RR.c (Rc.d (D.bool false)))))
      (VC.br (y15.snd.snd.fst != y16.snd.snd.fst)
       (VC.ret (some (RR.c (Rc.d (D.bool false)))))
       (VC.need (PreOk c_rSame (Sta.of (Sta.cells y15.fst), Sta.of (Sta.cells y16.fst)) [A.agg (Sta.cells y15.fst), A.agg (Sta.cells y16.fst)])
       (VC.all (v_rSame (Sta.of (Sta.cells y15.fst), Sta.of (Sta.cells y16.fst))) fun (y17 : Bool) =>
       (VC.br (!y17)
        (VC.ret (some (RR.c (Rc.d (D.bool false)))))
        (VC.need (PreOk c_rSameO (y15.snd.fst, y16.snd.fst) [A.c (D.sl (rowsOn y15.snd.fst)), A.c (D.sl (rowsOn y16.snd.fst))])
        (VC.all (v_rSameO (listOf Obs (rowsOn y15.snd.fst), listOf Obs (rowsOn y16.snd.fst))) fun (y18 : Bool) =>
        (VC.br (!y18)
         (VC.ret (some (RR.c (Rc.d (D.bool false)))))
         (FnA.at_ a_lTells8 1 (F_lt1 p (max v (IntKind.wrap IntKind.i64 (bits BinOp.and IntKind.i64 w (15 : Int) + (1 : Int)))) a pc n w (rowsOn st) (List.length (rowsOn st)) true (IntKind.wrap IntKind.i64 (q + (1 : Int)))))))))))))))))))))))))))))))))
 (VC.need (PreOk c_awake8 PUnit.unit [])
 (VC.ret (some (RR.c (Rc.d (D.bool true))))))) := by kernel_rfl
theorem and15' (a : Int) : bits .and .i64 a 15 = a % 16 := and_mask a 4 (by decide)
theorem and63' (a : Int) : bits .and .i64 a 63 = a % 64 := and_mask a 6 (by decide)
theorem pow_mono {v w : Int} (h : v ≤ w) (hv : 1 ≤ v) : (2 : Int) ^ v.toNat ≤ 2 ^ w.toNat := by
  have : (2 : Nat) ^ v.toNat ≤ 2 ^ w.toNat := Nat.pow_le_pow_right (by decide) (by omega)
  exact_mod_cast this
theorem l_lt1 (p : Prg) (a : Sta) (pc n w : Int) (st : List Int) (hp : PrgOk p) (hst : st.length ≤ 1000) : ∀ i : Int × Bool × Int, (fun (i : Int × Bool × Int) => 0 ≤ i.2.2 ∧ i.2.2 ≤ 2 ∧ okW i.1 ∧ StaOk { p with w := i.1 } { a with stack := st }) i → (a_lTells8.at_ 1 ((fun (i : Int × Bool × Int) => F_lt1 p i.1 a pc n w (rowsOn st) (rowsOn st).length i.2.1 i.2.2) i)).holds s_lTells8.cx a_lTells8.rs (fun r => r.le (rb true)) := by
  refine loop_rule (a := a_lTells8) (j := 1) (m := 400) s_lTells8_sound (fun (i : Int × Bool × Int) => F_lt1 p i.1 a pc n w (rowsOn st) (rowsOn st).length i.2.1 i.2.2) (fun (i : Int × Bool × Int) => 0 ≤ i.2.2 ∧ i.2.2 ≤ 2 ∧ okW i.1 ∧ StaOk { p with w := i.1 } { a with stack := st }) (fun (i : Int × Bool × Int) => (2 - i.2.2).toNat) ?_
  rintro ⟨v, fz, q⟩ h_inv ih
  try dsimp only at h_inv
  replace ih := fun (v0 : Int) (v1 : Bool) (v2 : Int) => ih (v0, v1, v2)
  try dsimp only at ih
  show VC.holds _ _ _ (a_lTells8.round s_lTells8 400 1 (F_lt1 p v a pc n w (rowsOn st) (rowsOn st).length fz q))
  rw [t_lt1]
  try simp only [asRows_sl, asInt_int, asBool_bool, asStr_str, listOf_rowsOn, List.drop_zero, Prg.eta, Sta.eta, rowsOn_length, getD_drop, Nat.reduceAdd, rd_int, rd_PMem_name, rd_PMem_secret, rd_PMem_n, rd_PLabel_name, rd_PLabel_at_, rd_Ins_kind, rd_Ins_op, rd_Ins_d, rd_Ins_aR, rd_Ins_aN, rd_Ins_bR, rd_Ins_bN, rd_Ins_name, rd_Ins_target, rd_Ent_pc, rd_Ent_val, rd_Ent_addr, rd_Ent_fro, rd_Ent_next, rd_Ent_done, rd_Ent_known, rd_Ent_fault, rd_Place_reg, rd_Place_n, rd_Place_secret, rd_Obs_kind, rd_Obs_at_, rd_Dir_kind, rd_Dir_n, Prg.of_cells, Sta.of_cells]
  obtain ⟨h0, h1, hv, hS⟩ := h_inv
  simp only [rowsOn_length] at ih
  have hP : PrgOk { p with w := v } := ⟨hv, hp.mems, hp.len, hp.ins⟩
  have eP : Prg.of [.int .i64 v, .int .i64 p.window, .int .i64 p.fuel, .int .i64 p.r0, .int .i64 p.r1, .int .i64 p.r2, .int .i64 p.r3, .sl (rowsOn p.mems), .sl (rowsOn p.labels), .sl (rowsOn p.ins)] = { p with w := v } := by simp [Prg.of]
  have eS : Sta.of [.int .i64 a.r0, .int .i64 a.r1, .int .i64 a.r2, .int .i64 a.r3, .sl (rowsOn a.mem), .sl (rowsOn st), .int .i64 a.pc] = { a with stack := st } := by simp [Sta.of]
  have hN : 0 ≤ bits .and .i64 n 63 ∧ bits .and .i64 n 63 < 64 := by rw [and63']; omega
  have hW : 0 ≤ bits .and .i64 w 15 ∧ bits .and .i64 w 15 < 16 := by rw [and15']; omega
  simp only [eP, eS]
  rw [wrap_small (bits .and .i64 n 63 - 2) (by omega) (by omega), wrap_small (bits .and .i64 w 15 + 1) (by omega) (by omega), wrap_small (q + 1) (by omega) (by omega)]
  refine br_dec (fun hq => ?_) (fun hq => ⟨PreOk.mk trivial rfl, ret_le (RR.le_refl _)⟩)
  refine ⟨PreOk.mk ⟨hP.mems, hS.small hP, hP.len⟩ rfl, all_holds fun x hx => ⟨PreOk.mk ⟨hP, hS⟩ rfl, all_holds fun y hy => ?_⟩⟩
  obtain rfl : y = x := hy.trans hx.symm
  replace hx : y = stepS { p with w := v } { a with stack := st } := hx
  have hso := step_ok hP hS
  have hol := (step_len { p with w := v } { a with stack := st }).2.2
  rw [← hx] at hso hol
  refine br_f (by simp) ⟨PreOk.mk ⟨hso.small hP, hso.small hP⟩ rfl, all_holds fun b hb => ?_⟩
  replace hb : b = true := by rw [hb]; simp [v_rSame]
  subst hb
  refine br_f rfl ⟨PreOk.mk (by dsimp only [c_rSameO]; omega) rfl, all_holds fun b hb => ?_⟩
  replace hb : b = true := by rw [hb]; simp [v_rSameO]
  subst hb
  refine br_f rfl ⟨PreOk.mk trivial rfl, all_holds fun i hi => ⟨PreOk.mk trivial rfl, all_holds fun j hj => ?_⟩⟩
  obtain rfl : i = j := hi.trans hj.symm
  refine br_f (by simp) ?_
  refine ⟨PreOk.mk ⟨hP.mems, hS.small hP, hP.len, by dsimp only; omega⟩ rfl, all_holds fun x hx => ⟨PreOk.mk ⟨hP, hS, by dsimp only; omega⟩ rfl, all_holds fun z hz => ?_⟩⟩
  obtain rfl : z = x := hz.trans hx.symm
  replace hx : z = runS { p with w := v } (bits .and .i64 n 63 - 2).toNat { a with stack := st } := hx
  have hro := run_ok hP (bits .and .i64 n 63 - 2).toNat hS
  have hrl := (run_len { p with w := v } (bits .and .i64 n 63 - 2).toNat { a with stack := st }).2.2.1
  rw [← hx] at hro hrl
  refine br_f (by simp) (br_f (by simp) ⟨PreOk.mk ⟨hro.small hP, hro.small hP⟩ rfl, all_holds fun b hb => ?_⟩)
  replace hb : b = true := by rw [hb]; simp [v_rSame]
  subst hb
  refine br_f rfl ⟨PreOk.mk (by dsimp only [c_rSameO]; omega) rfl, all_holds fun b hb => ?_⟩
  replace hb : b = true := by rw [hb]; simp [v_rSameO]
  subst hb
  refine br_f rfl ?_
  have hm := pow_mono (show v ≤ max v (bits .and .i64 w 15 + 1) by omega) hv.1
  obtain ⟨s1, s2, s3, s4⟩ := hS
  dsimp only at s1 s2 s3 s4
  have hv1 := hv.1
  have hv2 := hv.2
  have hmx : okW (max v (bits .and .i64 w 15 + 1)) := ⟨by omega, by omega⟩
  refine ih _ _ _ ⟨by omega, by omega, hmx, ⟨fun r hr => ?_, fun u hu => ?_, s3, s4⟩⟩ (by omega)
  · have := s1 r hr; dsimp only; exact ⟨this.1, Int.lt_of_lt_of_le this.2 hm⟩
  · have := s2 u hu; dsimp only; exact ⟨this.1, Int.lt_of_lt_of_le this.2 hm⟩
theorem l_lt0 (p : Prg) (a : Sta) (pc : Int) (stk : List Int) (n w : Int) (hp : PrgOk p) (hS : StaOk p a) : ∀ i : Int × List (List D) × Nat, (fun (i : Int × List (List D) × Nat) => 0 ≤ i.1 ∧ ∃ st : List Int, OnL i.2.1 i.2.2 st ∧ st.length = i.1 ∧ i.1 ≤ 4) i → (a_lTells8.at_ 0 ((fun (i : Int × List (List D) × Nat) => F_lt0 p a pc stk n w i.2.1 i.2.2 i.1) i)).holds s_lTells8.cx a_lTells8.rs (fun r => r.le (rb true)) := by
  refine loop_rule (a := a_lTells8) (j := 0) (m := 400) s_lTells8_sound (fun (i : Int × List (List D) × Nat) => F_lt0 p a pc stk n w i.2.1 i.2.2 i.1) (fun (i : Int × List (List D) × Nat) => 0 ≤ i.1 ∧ ∃ st : List Int, OnL i.2.1 i.2.2 st ∧ st.length = i.1 ∧ i.1 ≤ 4) (fun (i : Int × List (List D) × Nat) => (4 - i.1).toNat) ?_
  rintro ⟨k, S, ks⟩ h_inv ih
  try dsimp only at h_inv
  replace ih := fun (v0 : Int) (v1 : List (List D)) (v2 : Nat) => ih (v0, v1, v2)
  try dsimp only at ih
  show VC.holds _ _ _ (a_lTells8.round s_lTells8 400 0 (F_lt0 p a pc stk n w S ks k))
  rw [t_lt0]
  try simp only [asRows_sl, asInt_int, asBool_bool, asStr_str, listOf_rowsOn, List.drop_zero, Prg.eta, Sta.eta, rowsOn_length, getD_drop, Nat.reduceAdd, rd_int, rd_PMem_name, rd_PMem_secret, rd_PMem_n, rd_PLabel_name, rd_PLabel_at_, rd_Ins_kind, rd_Ins_op, rd_Ins_d, rd_Ins_aR, rd_Ins_aN, rd_Ins_bR, rd_Ins_bN, rd_Ins_name, rd_Ins_target, rd_Ent_pc, rd_Ent_val, rd_Ent_addr, rd_Ent_fro, rd_Ent_next, rd_Ent_done, rd_Ent_known, rd_Ent_fault, rd_Place_reg, rd_Place_n, rd_Place_secret, rd_Obs_kind, rd_Obs_at_, rd_Dir_kind, rd_Dir_n, Prg.of_cells, Sta.of_cells]
  obtain ⟨h0, st, h2, h3, h4⟩ := h_inv
  have hl := hp.len
  have w1 : IntKind.wrap .i64 (k + 1) = k + 1 := wrap_small _ (by omega) (by omega)
  have hfin : (a_lTells8.at_ 1 (F_lt1 p p.w a pc n w S ks false 0)).holds s_lTells8.cx a_lTells8.rs fun r => r.le (rb true) := by
    obtain ⟨rfl, rfl⟩ := h2
    have := l_lt1 p a pc n w st hp (by omega) (p.w, false, 0) ⟨by simp, by simp, hp.w, ⟨hS.regs, hS.vals, hS.mem, by dsimp only; omega⟩⟩
    dsimp only at this
    rwa [rowsOn_length] at this
  rw [w1, wrap_small ((p.ins.length : Int) + 1) (by omega) (by omega)]
  refine br_dec (fun hk => ?_) (fun hk => hfin)
  refine br_dec (fun hk4 => ?_) (fun hk4 => hfin)
  refine ⟨idx_ok _ _ _ rfl (by omega) (by omega), ⟨okSh_ok _ _ _ (fun _ => rfl) (by omega) (by omega), ⟨by omega, ⟨app_ok h2 rfl rfl (by simp only [List.length_cons, List.length_nil]; omega), ?_⟩⟩⟩⟩
  exact ih _ _ _ ⟨by omega, _, h2.snoc (_ : Int), by simp; omega, by omega⟩ (by omega)
theorem c_lTells8_good : c_lTells8.fe.Good Try.prog := by
  refine FT.good c_lTells8 ⟨Try.f16, by kernel_rfl, by decide +kernel, by kernel_rfl⟩ (fun ⟨m, l, pc, stk, n, w⟩ => by first | rfl | simp [c_lTells8, rrRef, rrun, rstep, rins, rnum, rby, rss, rnewI, rnewE, rstab, rplaces, ri, rb, rib, Sta.fresh]) fun ⟨m, l, pc, stk, n, w⟩ hp => ?_
  refine acalls_le s_lTells8_sound (fn := Try.f16) (a := a_lTells8) (nargs := 6) (tbl := [(5, [2, 3, 4, 5, 13, 14, 16, 3000896005000900011001]), (9, [2, 4, 5, 13, 14, 17, 3000896005000900011001])]) (by kernel_rfl) (by kernel_rfl) rfl (m := 400) ?_
  show VC.holds _ _ _ (a_lTells8.start s_lTells8 400 [al m, al l, ai pc, al stk, ai n, ai w])
  rw [t_lTells8]
  try simp only [asRows_sl, asInt_int, asBool_bool, asStr_str, listOf_rowsOn, List.drop_zero, Prg.eta, Sta.eta, rowsOn_length, getD_drop, Nat.reduceAdd, rd_int, rd_PMem_name, rd_PMem_secret, rd_PMem_n, rd_PLabel_name, rd_PLabel_at_, rd_Ins_kind, rd_Ins_op, rd_Ins_d, rd_Ins_aR, rd_Ins_aN, rd_Ins_bR, rd_Ins_bN, rd_Ins_name, rd_Ins_target, rd_Ent_pc, rd_Ent_val, rd_Ent_addr, rd_Ent_fro, rd_Ent_next, rd_Ent_done, rd_Ent_known, rd_Ent_fault, rd_Place_reg, rd_Place_n, rd_Place_secret, rd_Obs_kind, rd_Obs_at_, rd_Dir_kind, rd_Dir_n, Prg.of_cells, Sta.of_cells]
  try simp only [c_lTells8] at hp
  refine ⟨PreOk.mk trivial rfl, all_holds fun p hp0 => ?_⟩
  have hw : WFM p := by rw [hp0]; exact (makeS_spec _).1
  clear hp0
  have hp := hw.ok
  have hlen := hw.len
  refine ⟨PreOk.mk hw.toMems rfl, all_holds fun s2 hs2 => ?_⟩
  replace hs2 : s2 = statesS p l n := hs2
  obtain ⟨hok, _, _, _, hst, _⟩ := states_ok hp l n
  rw [← hs2] at hok hst
  clear hs2
  generalize s2.1 = a at hok hst ⊢
  rw [wrap_small ((p.ins.length : Int) + 2) (by omega) (by omega)]
  refine ⟨by omega, ?_⟩
  have h := l_lt0 p { a with pc := IntKind.wrap .i64 (Int.tmod (bits .and .i64 pc 255) ((p.ins.length : Int) + 2) - 1) } pc stk n w hp ⟨hok.regs, hok.vals, hok.mem, hok.stack⟩ (0, rowsOn a.stack, a.stack.length) ⟨by simp, a.stack, ⟨rfl, rfl⟩, by simp [hst], by simp⟩
  simp only [F_lt0, Z_lt, rowsOn_length] at h
  exact h
end Go.Proofs.Ytclabjihjopclaa.Ax
