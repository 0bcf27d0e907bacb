/- Several texts in one, in their order. -/
import Derived.Test.YtmhfhobaicklmaaPart2
import Derived.Test.YtmhfhobaicklmaaAxBk
import Derived.Shelf.Strings.Search1
import Derived.Shelf.Strings.Search2
import Derived.Shelf.Strings.Search3
import Derived.Shelf.LaysM
import Derived.Shelf.Strings.Shaped
import Derived.Test.YtmhfhobaicklmaaProg
section
/- Ranges over slices.Backward; awake of layers 10, 11, 19, 23. -/
namespace Go.Proofs.Ytmhfhobaicklmaa.Ax
open Go.RowKit
set_option linter.unusedVariables false
set_option linter.unusedSimpArgs false
theorem backE_ok : BackOK Try.prog 87 (some 8) :=
  backward_ok (fn := Try.f87) (t := 34) (u := 43) (by kernel_rfl) rfl rfl rfl (by kernel_rfl) (by kernel_rfl) (by kernel_rfl) (by kernel_rfl) ⟨rfl, rfl, rfl⟩ ⟨rfl, rfl, rfl⟩ ⟨rfl, rfl, rfl⟩ ⟨rfl, rfl, rfl⟩ ⟨rfl, rfl, rfl⟩ ⟨rfl, rfl, rfl⟩ ⟨rfl, rfl, rfl⟩ ⟨rfl, rfl, rfl⟩ ⟨rfl, rfl, rfl⟩ ⟨rfl, rfl, rfl⟩ ⟨rfl, rfl, rfl⟩ ⟨rfl, rfl, rfl⟩ ⟨rfl, rfl, rfl⟩ ⟨rfl, rfl, rfl⟩ ⟨rfl, rfl, rfl⟩ ⟨rfl, rfl, rfl⟩ ⟨rfl, rfl, rfl⟩
def kdE : List Kd := [.int .i64, .int .i64, .int .i64, .int .i64, .int .i64, .bool, .bool, .bool]
/-- seqm.put, seqm.touch and pair.fill are run in their callers' places. -/
def c_awake10 : FT Unit := ⟨18, fun _ => [], rd0, fun _ => True, fun _ => rb true, false, fun _ => rfl⟩
def c_awake11 : FT Unit := ⟨15, fun _ => [], rd0, fun _ => True, fun _ => rb true, false, fun _ => rfl⟩
end Go.Proofs.Ytmhfhobaicklmaa.Ax
end

section
/- One by one: a step's state is of memory of its own. -/
namespace Go.Proofs.Ytmhfhobaicklmaa.Ax
open Go.RowKit
set_option linter.unusedVariables false
set_option linter.unusedSimpArgs false
noncomputable def Z_bk : Zo := mkZ Try.prog 200000 [(68, ⟨300000, fun _ => none, fun _ => none⟩)]
noncomputable def Z_own : Zo := mkZ Try.prog 0 [(63, ⟨100000, fun _ => none, fun _ => none⟩), (67, Z_t), (68, ⟨400000, fun _ => none, fun _ => none⟩), (70, Z_bk)]
theorem Z_own_ok : ZOK Try.prog 2 Z_own := zok_mk fun p hp => by
  simp only [List.mem_cons, List.not_mem_nil, or_false] at hp
  rcases hp with rfl | rfl | rfl | rfl
  · exact zok_none _ _ _
  · exact zok_mk fun p hp => by
      simp only [List.mem_cons, List.not_mem_nil, or_false] at hp
      subst hp
      exact zok_none _ _ _
  · exact zok_none _ _ _
  · exact zok_mk fun p hp => by
      simp only [List.mem_cons, List.not_mem_nil, or_false] at hp
      subst hp
      exact zok_none _ _ _
def rstepN (x : Sta × List Obs × Int) : RR := .tup [.inr x.1.fresh, .inl (.new 2 (rowsOn x.2.1)), .inl (.d (.int .i64 x.2.2))]
theorem ret_leN {cx : Cx} {rs : List RVar} {r r' : RR} (h : r.le r') : (VC.ret (some r)).holds cx rs (fun x => x.le r') := h
noncomputable def a_stepF : FnA := (fnAZ Try.prog Z_own Try.f32 2 []).getD ⟨0, .skip, [], []⟩
noncomputable def s_stepF : Sp := spT [c_aStill.gfe v_aStill sh_aStill e_aStill, c_sAt.gfe v_sAt sh_sAt e_sAt, c_sVal.gfe v_sVal sh_sVal e_sVal, c_sReg.gfe v_sReg sh_sReg e_sReg, c_sValue.gfe v_sValue sh_sValue e_sValue, c_sAddr.gfe v_sAddr sh_sAddr e_sAddr, c_sWay.gfe v_sWay sh_sWay e_sWay]
theorem s_stepF_sound : s_stepF.sound Try.prog := spT_sound fun e he => by
  simp only [List.mem_cons, List.not_mem_nil, or_false] at he
  rcases he with rfl | rfl | rfl | rfl | rfl | rfl | rfl
  · exact FT.gfe_good c_aStill_good
  · exact FT.gfe_good c_sAt_good
  · exact FT.gfe_good c_sVal_good
  · exact FT.gfe_good c_sReg_good
  · exact FT.gfe_good c_sValue_good
  · exact FT.gfe_good c_sAddr_good
  · exact FT.gfe_good c_sWay_good
set_option maxRecDepth 100000 in
theorem t_stepF (p : Prg) (s : Sta) : a_stepF.start s_stepF 400 [ap p, as_ s] =
(VC.need (PreOk c_aStill (Sta.of (Sta.cells s), ()) [A.agg (Sta.cells s)])
(VC.all (v_aStill (Sta.of (Sta.cells s), ())) fun (y2 : Sta) =>
(VC.need (PreOk c_aStill (Sta.of (Sta.cells s), ()) [A.agg (Sta.cells s)])
(VC.all (v_aStill (Sta.of (Sta.cells s), ())) fun (y3 : Sta) =>
(VC.need (PreOk c_sAt (Prg.of (Prg.cells p), y3.pc) [A.agg (Prg.cells p), A.c (D.int IntKind.i64 y3.pc)])
(VC.all (v_sAt (Prg.of (Prg.cells p), y3.pc)) fun (y4 : Ins) =>
(VC.br (y4.kind == (1 : Int))
 (VC.need (PreOk c_sVal (Prg.of (Prg.cells p), Sta.of (Sta.cells y3), y4.aR, y4.aN) [A.agg (Prg.cells p), A.agg (Sta.cells y3), A.agg [D.bool y4.aR, D.int IntKind.i64 y4.aN]])
 (VC.all (v_sVal (Prg.of (Prg.cells p), Sta.of (Sta.cells y3), y4.aR, y4.aN)) fun (y5 : Int) =>
 (VC.need (PreOk c_sVal (Prg.of (Prg.cells p), Sta.of (Sta.cells y3), y4.bR, y4.bN) [A.agg (Prg.cells p), A.agg (Sta.cells y3), A.agg [D.bool y4.bR, D.int IntKind.i64 y4.bN]])
 (VC.all (v_sVal (Prg.of (Prg.cells p), Sta.of (Sta.cells y3), y4.bR, y4.bN)) fun (y6 : Int) =>
 (VC.need (PreOk c_sReg (Prg.of (Prg.cells p), Sta.of (Sta.cells y3), y4.d) [A.agg (Prg.cells p), A.agg (Sta.cells y3), A.c (D.int IntKind.i64 y4.d)])
 (VC.all (v_sReg (Prg.of (Prg.cells p), Sta.of (Sta.cells y3), y4.d)) fun (y7 : Int) =>
 (VC.need (PreOk c_sValue (Prg.of (Prg.cells p), Row.of [D.int IntKind.i64 y4.kind, D.int IntKind.i64 y4.op, D.int IntKind.i64 y4.d, D.bool y4.aR, D.int IntKind.i64 y4.aN, D.bool y4.bR, D.int IntKind.i64 y4.bN, D.str y4.name, D.int IntKind.i64 y4.target], y5, y6, y7) [A.agg (Prg.cells p), A.agg [D.int IntKind.i64 y4.kind, D.int IntKind.i64 y4.op, D.int IntKind.i64 y4.d, D.bool y4.aR, D.int IntKind.i64 y4.aN, D.bool y4.bR, D.int IntKind.i64 y4.bN, D.str y4.name, D.int IntKind.i64 y4.target], A.c (D.int IntKind.i64 y5), A.c (D.int IntKind.i64 y6), A.c (D.int IntKind.i64 y7)])
 (VC.all (v_sValue (Prg.of (Prg.cells p), Row.of [D.int IntKind.i64 y4.kind, D.int IntKind.i64 y4.op, D.int IntKind.i64 y4.d, D.bool y4.aR, D.int IntKind.i64 y4.aN, D.bool y4.bR, D.int IntKind.i64 y4.bN, D.str y4.name, D.int IntKind.i64 y4.target], y5, y6, y7)) fun (y8 : Int) =>
 (VC.br (decide ((0 : Int) ≤ y4.d))
  (VC.br (decide (y4.d < (4 : Int)))
   (VC.br (decide (y4.d = (0 : Int)))
    (VC.ret (some (RR.tup [Sum.inr [Rc.d (D.int IntKind.i64 y8), Rc.d (D.int IntKind.i64 y3.r1), Rc.d (D.int IntKind.i64 y3.r2), Rc.d (D.int IntKind.i64 y3.r3), Rc.new (1 : Nat) (rowsOn y3.mem), Rc.new (1 : Nat) (rowsOn y3.stack), Rc.d (D.int IntKind.i64 (IntKind.wrap IntKind.i64 (y3.pc + (1 : Int))))], Sum.inl Rc.nil, Sum.inl (Rc.d (D.int IntKind.i64 (0 : Int)))])))
    (VC.br (decide (y4.d = (1 : Int)))
     (VC.ret (some (RR.tup [Sum.inr [Rc.d (D.int IntKind.i64 y3.r0), Rc.d (D.int IntKind.i64 y8), Rc.d (D.int IntKind.i64 y3.r2), Rc.d (D.int IntKind.i64 y3.r3), Rc.new (1 : Nat) (rowsOn y3.mem), Rc.new (1 : Nat) (rowsOn y3.stack), Rc.d (D.int IntKind.i64 (IntKind.wrap IntKind.i64 (y3.pc + (1 : Int))))], Sum.inl Rc.nil, Sum.inl (Rc.d (D.int IntKind.i64 (0 : Int)))])))
     (VC.br (decide (y4.d = (2 : Int)))
      (VC.ret (some (RR.tup [Sum.inr [Rc.d (D.int IntKind.i64 y3.r0), Rc.d (D.int IntKind.i64 y3.r1), Rc.d (D.int IntKind.i64 y8), Rc.d (D.int IntKind.i64 y3.r3), Rc.new (1 : Nat) (rowsOn y3.mem), Rc.new (1 : Nat) (rowsOn y3.stack), Rc.d (D.int IntKind.i64 (IntKind.wrap IntKind.i64 (y3.pc + (1 : Int))))], Sum.inl Rc.nil, Sum.inl (Rc.d (D.int IntKind.i64 (0 : Int)))])))
      (VC.br (decide (y4.d = (3 : Int)))
       (VC.ret (some (RR.tup [Sum.inr [Rc.d (D.int IntKind.i64 y3.r0), Rc.d (D.int IntKind.i64 y3.r1), Rc.d (D.int IntKind.i64 y3.r2), Rc.d (D.int IntKind.i64 y8), Rc.new (1 : Nat) (rowsOn y3.mem), Rc.new (1 : Nat) (rowsOn y3.stack), Rc.d (D.int IntKind.i64 (IntKind.wrap IntKind.i64 (y3.pc + (1 : Int))))], Sum.inl Rc.nil, Sum.inl (Rc.d (D.int IntKind.i64 (0 : Int)))])))
       VC.ff))))
   (VC.ret (some (RR.tup [Sum.inr [Rc.d (D.int IntKind.i64 y3.r0), Rc.d (D.int IntKind.i64 y3.r1), Rc.d (D.int IntKind.i64 y3.r2), Rc.d (D.int IntKind.i64 y3.r3), Rc.new (1 : Nat) (rowsOn y3.mem), Rc.new (1 : Nat) (rowsOn y3.stack), Rc.d (D.int IntKind.i64 (IntKind.wrap IntKind.i64 (y3.pc + (1 : Int))))], Sum.inl Rc.nil, Sum.inl (Rc.d (D.int IntKind.i64 (0 : Int)))]))))
  (VC.ret (some (RR.tup [Sum.inr [Rc.d (D.int IntKind.i64 y3.r0), Rc.d (D.int IntKind.i64 y3.r1), Rc.d (D.int IntKind.i64 y3.r2), Rc.d (D.int IntKind.i64 y3.r3), Rc.new (1 : Nat) (rowsOn y3.mem), Rc.new (1 : Nat) (rowsOn y3.stack), Rc.d (D.int IntKind.i64 (IntKind.wrap IntKind.i64 (y3.pc + (1 : Int))))], Sum.inl Rc.nil, Sum.inl (Rc.d (D.int IntKind.i64 (0 : Int)))]))))))))))))
 (VC.br (y4.kind == (4 : Int))
  (VC.need (PreOk c_sVal (Prg.of (Prg.cells p), Sta.of (Sta.cells y3), y4.aR, y4.aN) [A.agg (Prg.cells p), A.agg (Sta.cells y3), A.agg [D.bool y4.aR, D.int IntKind.i64 y4.aN]])
  (VC.all (v_sVal (Prg.of (Prg.cells p), Sta.of (Sta.cells y3), y4.aR, y4.aN)) fun (y5 : Int) =>
  (VC.need (PreOk c_sVal (Prg.of (Prg.cells p), Sta.of (Sta.cells y3), y4.bR, y4.bN) [A.agg (Prg.cells p), A.agg (Sta.cells y3), A.agg [D.bool y4.bR, D.int IntKind.i64 y4.bN]])
  (VC.all (v_sVal (Prg.of (Prg.cells p), Sta.of (Sta.cells y3), y4.bR, y4.bN)) fun (y6 : Int) =>
  (VC.need (PreOk c_sReg (Prg.of (Prg.cells p), Sta.of (Sta.cells y3), y4.d) [A.agg (Prg.cells p), A.agg (Sta.cells y3), A.c (D.int IntKind.i64 y4.d)])
  (VC.all (v_sReg (Prg.of (Prg.cells p), Sta.of (Sta.cells y3), y4.d)) fun (y7 : Int) =>
  (VC.need (PreOk c_sValue (Prg.of (Prg.cells p), Row.of [D.int IntKind.i64 y4.kind, D.int IntKind.i64 y4.op, D.int IntKind.i64 y4.d, D.bool y4.aR, D.int IntKind.i64 y4.aN, D.bool y4.bR, D.int IntKind.i64 y4.bN, D.str y4.name, D.int IntKind.i64 y4.target], y5, y6, y7) [A.agg (Prg.cells p), A.agg [D.int IntKind.i64 y4.kind, D.int IntKind.i64 y4.op, D.int IntKind.i64 y4.d, D.bool y4.aR, D.int IntKind.i64 y4.aN, D.bool y4.bR, D.int IntKind.i64 y4.bN, D.str y4.name, D.int IntKind.i64 y4.target], A.c (D.int IntKind.i64 y5), A.c (D.int IntKind.i64 y6), A.c (D.int IntKind.i64 y7)])
  (VC.all (v_sValue (Prg.of (Prg.cells p), Row.of [D.int IntKind.i64 y4.kind, D.int IntKind.i64 y4.op, D.int IntKind.i64 y4.d, D.bool y4.aR, D.int IntKind.i64 y4.aN, D.bool y4.bR, D.int IntKind.i64 y4.bN, D.str y4.name, D.int IntKind.i64 y4.target], y5, y6, y7)) fun (y8 : Int) =>
  (VC.br (decide ((0 : Int) ≤ y4.d))
   (VC.br (decide (y4.d < (4 : Int)))
    (VC.br (decide (y4.d = (0 : Int)))
     (VC.ret (some (RR.tup [Sum.inr [Rc.d (D.int IntKind.i64 y8), Rc.d (D.int IntKind.i64 y3.r1), Rc.d (D.int IntKind.i64 y3.r2), Rc.d (D.int IntKind.i64 y3.r3), Rc.new (1 : Nat) (rowsOn y3.mem), Rc.new (1 : Nat) (rowsOn y3.stack), Rc.d (D.int IntKind.i64 (IntKind.wrap IntKind.i64 (y3.pc + (1 : Int))))], Sum.inl Rc.nil, Sum.inl (Rc.d (D.int IntKind.i64 (0 : Int)))])))
     (VC.br (decide (y4.d = (1 : Int)))
      (VC.ret (some (RR.tup [Sum.inr [Rc.d (D.int IntKind.i64 y3.r0), Rc.d (D.int IntKind.i64 y8), Rc.d (D.int IntKind.i64 y3.r2), Rc.d (D.int IntKind.i64 y3.r3), Rc.new (1 : Nat) (rowsOn y3.mem), Rc.new (1 : Nat) (rowsOn y3.stack), Rc.d (D.int IntKind.i64 (IntKind.wrap IntKind.i64 (y3.pc + (1 : Int))))], Sum.inl Rc.nil, Sum.inl (Rc.d (D.int IntKind.i64 (0 : Int)))])))
      (VC.br (decide (y4.d = (2 : Int)))
       (VC.ret (some (RR.tup [Sum.inr [Rc.d (D.int IntKind.i64 y3.r0), Rc.d (D.int IntKind.i64 y3.r1), Rc.d (D.int IntKind.i64 y8), Rc.d (D.int IntKind.i64 y3.r3), Rc.new (1 : Nat) (rowsOn y3.mem), Rc.new (1 : Nat) (rowsOn y3.stack), Rc.d (D.int IntKind.i64 (IntKind.wrap IntKind.i64 (y3.pc + (1 : Int))))], Sum.inl Rc.nil, Sum.inl (Rc.d (D.int IntKind.i64 (0 : Int)))])))
       (VC.br (decide (y4.d = (3 : Int)))
        (VC.ret (some (RR.tup [Sum.inr [Rc.d (D.int IntKind.i64 y3.r0), Rc.d (D.int IntKind.i64 y3.r1), Rc.d (D.int IntKind.i64 y3.r2), Rc.d (D.int IntKind.i64 y8), Rc.new (1 : Nat) (rowsOn y3.mem), Rc.new (1 : Nat) (rowsOn y3.stack), Rc.d (D.int IntKind.i64 (IntKind.wrap IntKind.i64 (y3.pc + (1 : Int))))], Sum.inl Rc.nil, Sum.inl (Rc.d (D.int IntKind.i64 (0 : Int)))])))
        VC.ff))))
    (VC.ret (some (RR.tup [Sum.inr [Rc.d (D.int IntKind.i64 y3.r0), Rc.d (D.int IntKind.i64 y3.r1), Rc.d (D.int IntKind.i64 y3.r2), Rc.d (D.int IntKind.i64 y3.r3), Rc.new (1 : Nat) (rowsOn y3.mem), Rc.new (1 : Nat) (rowsOn y3.stack), Rc.d (D.int IntKind.i64 (IntKind.wrap IntKind.i64 (y3.pc + (1 : Int))))], Sum.inl Rc.nil, Sum.inl (Rc.d (D.int IntKind.i64 (0 : Int)))]))))
   (VC.ret (some (RR.tup [Sum.inr [Rc.d (D.int IntKind.i64 y3.r0), Rc.d (D.int IntKind.i64 y3.r1), Rc.d (D.int IntKind.i64 y3.r2), Rc.d (D.int IntKind.i64 y3.r3), Rc.new (1 : Nat) (rowsOn y3.mem), Rc.new (1 : Nat) (rowsOn y3.stack), Rc.d (D.int IntKind.i64 (IntKind.wrap IntKind.i64 (y3.pc + (1 : Int))))], Sum.inl Rc.nil, Sum.inl (Rc.d (D.int IntKind.i64 (0 : Int)))]))))))))))))
  (VC.br (y4.kind == (2 : Int))
   (VC.need (PreOk c_sVal (Prg.of (Prg.cells p), Sta.of (Sta.cells y3), y4.aR, y4.aN) [A.agg (Prg.cells p), A.agg (Sta.cells y3), A.agg [D.bool y4.aR, D.int IntKind.i64 y4.aN]])
   (VC.all (v_sVal (Prg.of (Prg.cells p), Sta.of (Sta.cells y3), y4.aR, y4.aN)) fun (y5 : Int) =>
   (VC.need (PreOk c_sVal (Prg.of (Prg.cells p), Sta.of (Sta.cells y3), y4.bR, y4.bN) [A.agg (Prg.cells p), A.agg (Sta.cells y3), A.agg [D.bool y4.bR, D.int IntKind.i64 y4.bN]])
   (VC.all (v_sVal (Prg.of (Prg.cells p), Sta.of (Sta.cells y3), y4.bR, y4.bN)) fun (y6 : Int) =>
   (VC.need (PreOk c_sAddr (Prg.of (Prg.cells p), y5, y6) [A.agg (Prg.cells p), A.c (D.int IntKind.i64 y5), A.c (D.int IntKind.i64 y6)])
   (VC.all ((maskS p.w (y5 + y6), decide (maskS p.w (y5 + y6) < cellsS (listOf PMem (rowsOn p.mems))))) fun (y7 : Int × Bool) =>
   (VC.br (!y7.snd)
    (VC.ret (some (RR.tup [Sum.inr [Rc.d (D.int IntKind.i64 y2.r0), Rc.d (D.int IntKind.i64 y2.r1), Rc.d (D.int IntKind.i64 y2.r2), Rc.d (D.int IntKind.i64 y2.r3), Rc.new (1 : Nat) (rowsOn y2.mem), Rc.new (1 : Nat) (rowsOn y2.stack), Rc.d (D.int IntKind.i64 y2.pc)], Sum.inl Rc.nil, Sum.inl (Rc.d (D.int IntKind.i64 (2 : Int)))])))
    (VC.br (decide ((↑(List.length (rowsOn y3.mem)) : Int) ≤ y7.fst))
     (VC.ret (some (RR.tup [Sum.inr [Rc.d (D.int IntKind.i64 y2.r0), Rc.d (D.int IntKind.i64 y2.r1), Rc.d (D.int IntKind.i64 y2.r2), Rc.d (D.int IntKind.i64 y2.r3), Rc.new (1 : Nat) (rowsOn y2.mem), Rc.new (1 : Nat) (rowsOn y2.stack), Rc.d (D.int IntKind.i64 y2.pc)], Sum.inl Rc.nil, Sum.inl (Rc.d (D.int IntKind.i64 (2 : Int)))])))
     (VC.br (y4.kind == (2 : Int))
      (VC.need ((0 : Int) ≤ y7.fst ∧ y7.fst < (↑(List.length (rowsOn y3.mem)) : Int))
      (VC.need (Int.toNat y7.fst < List.length (rowsOn y3.mem) ∧ List.length (rowAt (rowsOn y3.mem) (Int.toNat y7.fst)) = (1 : Nat) ∧ okSh [Kd.int IntKind.i64] (List.drop (0 : Nat) (rowAt (rowsOn y3.mem) (Int.toNat y7.fst))))
      (VC.br (decide ((0 : Int) ≤ y4.d))
       (VC.br (decide (y4.d < (4 : Int)))
        (VC.br (decide (y4.d = (0 : Int)))
         (VC.ret (some (RR.tup [Sum.inr [Rc.d (D.int IntKind.i64 (asInt (List.getD (List.drop (0 : Nat) (rowAt (rowsOn y3.mem) (Int.toNat y7.fst))) (0 : Nat) D.nilp))), Rc.d (D.int IntKind.i64 y3.r1), Rc.d (D.int IntKind.i64 y3.r2), Rc.d (D.int IntKind.i64 y3.r3), Rc.new (1 : Nat) (rowsOn y3.mem), Rc.new (1 : Nat) (rowsOn y3.stack), Rc.d (D.int IntKind.i64 (IntKind.wrap IntKind.i64 (y3.pc + (1 : Int))))], Sum.inl (Rc.new (2 : Nat) [[D.int IntKind.i64 (1 : Int), D.int IntKind.i64 y7.fst]]), Sum.inl (Rc.d (D.int IntKind.i64 (0 : Int)))])))
         (VC.br (decide (y4.d = (1 : Int)))
          (VC.ret (some (RR.tup [Sum.inr [Rc.d (D.int IntKind.i64 y3.r0), Rc.d (D.int IntKind.i64 (asInt (List.getD (List.drop (0 : Nat) (rowAt (rowsOn y3.mem) (Int.toNat y7.fst))) (0 : Nat) D.nilp))), Rc.d (D.int IntKind.i64 y3.r2), Rc.d (D.int IntKind.i64 y3.r3), Rc.new (1 : Nat) (rowsOn y3.mem), Rc.new (1 : Nat) (rowsOn y3.stack), Rc.d (D.int IntKind.i64 (IntKind.wrap IntKind.i64 (y3.pc + (1 : Int))))], Sum.inl (Rc.new (2 : Nat) [[D.int IntKind.i64 (1 : Int), D.int IntKind.i64 y7.fst]]), Sum.inl (Rc.d (D.int IntKind.i64 (0 : Int)))])))
          (VC.br (decide (y4.d = (2 : Int)))
           (VC.ret (some (RR.tup [Sum.inr [Rc.d (D.int IntKind.i64 y3.r0), Rc.d (D.int IntKind.i64 y3.r1), Rc.d (D.int IntKind.i64 (asInt (List.getD (List.drop (0 : Nat) (rowAt (rowsOn y3.mem) (Int.toNat y7.fst))) (0 : Nat) D.nilp))), Rc.d (D.int IntKind.i64 y3.r3), Rc.new (1 : Nat) (rowsOn y3.mem), Rc.new (1 : Nat) (rowsOn y3.stack), Rc.d (D.int IntKind.i64 (IntKind.wrap IntKind.i64 (y3.pc + (1 : Int))))], Sum.inl (Rc.new (2 : Nat) [[D.int IntKind.i64 (1 : Int), D.int IntKind.i64 y7.fst]]), Sum.inl (Rc.d (D.int IntKind.i64 (0 : Int)))])))
           (VC.br (decide (y4.d = (3 : Int)))
            (VC.ret (some (RR.tup [Sum.inr [Rc.d (D.int IntKind.i64 y3.r0), Rc.d (D.int IntKind.i64 y3.r1), Rc.d (D.int IntKind.i64 y3.r2), Rc.d (D.int IntKind.i64 (asInt (List.getD (List.drop (0 : Nat) (rowAt (rowsOn y3.mem) (Int.toNat y7.fst))) (0 : Nat) D.nilp))), Rc.new (1 : Nat) (rowsOn y3.mem), Rc.new (1 : Nat) (rowsOn y3.stack), Rc.d (D.int IntKind.i64 (IntKind.wrap IntKind.i64 (y3.pc + (1 : Int))))], Sum.inl (Rc.new (2 : Nat) [[D.int IntKind.i64 (1 : Int), D.int IntKind.i64 y7.fst]]), Sum.inl (Rc.d (D.int IntKind.i64 (0 : Int)))])))
            VC.ff))))
        (VC.ret (some (RR.tup [Sum.inr [Rc.d (D.int IntKind.i64 y3.r0), Rc.d (D.int IntKind.i64 y3.r1), Rc.d (D.int IntKind.i64 y3.r2), Rc.d (D.int IntKind.i64 y3.r3), Rc.new (1 : Nat) (rowsOn y3.mem), Rc.new (1 : Nat) (rowsOn y3.stack), Rc.d (D.int IntKind.i64 (IntKind.wrap IntKind.i64 (y3.pc + (1 : Int))))], Sum.inl (Rc.new (2 : Nat) [[D.int IntKind.i64 (1 : Int), D.int IntKind.i64 y7.fst]]), Sum.inl (Rc.d (D.int IntKind.i64 (0 : Int)))]))))
       (VC.ret (some (RR.tup [Sum.inr [Rc.d (D.int IntKind.i64 y3.r0), Rc.d (D.int IntKind.i64 y3.r1), Rc.d (D.int IntKind.i64 y3.r2), Rc.d (D.int IntKind.i64 y3.r3), Rc.new (1 : Nat) (rowsOn y3.mem), Rc.new (1 : Nat) (rowsOn y3.stack), Rc.d (D.int IntKind.i64 (IntKind.wrap IntKind.i64 (y3.pc + (1 : Int))))], Sum.inl (Rc.new (2 : Nat) [[D.int IntKind.i64 (1 : Int), D.int IntKind.i64 y7.fst]]), Sum.inl (Rc.d (D.int IntKind.i64 (0 : Int)))]))))))
      (VC.need (PreOk c_sReg (Prg.of (Prg.cells p), Sta.of [D.int IntKind.i64 y3.r0, D.int IntKind.i64 y3.r1, D.int IntKind.i64 y3.r2, D.int IntKind.i64 y3.r3, D.sl (rowsOn y3.mem), D.sl (rowsOn y3.stack), D.int IntKind.i64 (IntKind.wrap IntKind.i64 (y3.pc + (1 : Int)))], y4.d) [A.agg (Prg.cells p), A.agg [D.int IntKind.i64 y3.r0, D.int IntKind.i64 y3.r1, D.int IntKind.i64 y3.r2, D.int IntKind.i64 y3.r3, D.sl (rowsOn y3.mem), D.sl (rowsOn y3.stack), D.int IntKind.i64 (IntKind.wrap IntKind.i64 (y3.pc + (1 : Int)))], A.c (D.int IntKind.i64 y4.d)])
      (VC.all (v_sReg (Prg.of (Prg.cells p), Sta.of [D.int IntKind.i64 y3.r0, D.int IntKind.i64 y3.r1, D.int IntKind.i64 y3.r2, D.int IntKind.i64 y3.r3, D.sl (rowsOn y3.mem), D.sl (rowsOn y3.stack), D.int IntKind.i64 (IntKind.wrap IntKind.i64 (y3.pc + (1 : Int)))], y4.d)) fun (y8 : Int) =>
      (VC.need ((0 : Int) ≤ y7.fst ∧ y7.fst < (↑(List.length (rowsOn y3.mem)) : Int))
      (VC.need (Int.toNat y7.fst < List.length (rowsOn y3.mem) ∧ List.length (rowAt (rowsOn y3.mem) (Int.toNat y7.fst)) = (1 : Nat) ∧ (1 : Nat) ≤ (1 : Nat))
      (VC.ret (some (RR.tup [Sum.inr [Rc.d (D.int IntKind.i64 y3.r0), Rc.d (D.int IntKind.i64 y3.r1), Rc.d (D.int IntKind.i64 y3.r2), Rc.d (D.int IntKind.i64 y3.r3), Rc.new (1 : Nat) (List.set (rowsOn y3.mem) (Int.toNat y7.fst) (splice (rowAt (rowsOn y3.mem) (Int.toNat y7.fst)) (0 : Nat) [D.int IntKind.i64 y8])), Rc.new (1 : Nat) (rowsOn y3.stack), Rc.d (D.int IntKind.i64 (IntKind.wrap IntKind.i64 (y3.pc + (1 : Int))))], Sum.inl (Rc.new (2 : Nat) [[D.int IntKind.i64 (2 : Int), D.int IntKind.i64 y7.fst]]), Sum.inl (Rc.d (D.int IntKind.i64 (0 : Int)))]))))))))))))))))
   (VC.br (y4.kind == (3 : Int))
    (VC.need (PreOk c_sVal (Prg.of (Prg.cells p), Sta.of (Sta.cells y3), y4.aR, y4.aN) [A.agg (Prg.cells p), A.agg (Sta.cells y3), A.agg [D.bool y4.aR, D.int IntKind.i64 y4.aN]])
    (VC.all (v_sVal (Prg.of (Prg.cells p), Sta.of (Sta.cells y3), y4.aR, y4.aN)) fun (y5 : Int) =>
    (VC.need (PreOk c_sVal (Prg.of (Prg.cells p), Sta.of (Sta.cells y3), y4.bR, y4.bN) [A.agg (Prg.cells p), A.agg (Sta.cells y3), A.agg [D.bool y4.bR, D.int IntKind.i64 y4.bN]])
    (VC.all (v_sVal (Prg.of (Prg.cells p), Sta.of (Sta.cells y3), y4.bR, y4.bN)) fun (y6 : Int) =>
    (VC.need (PreOk c_sAddr (Prg.of (Prg.cells p), y5, y6) [A.agg (Prg.cells p), A.c (D.int IntKind.i64 y5), A.c (D.int IntKind.i64 y6)])
    (VC.all ((maskS p.w (y5 + y6), decide (maskS p.w (y5 + y6) < cellsS (listOf PMem (rowsOn p.mems))))) fun (y7 : Int × Bool) =>
    (VC.br (!y7.snd)
     (VC.ret (some (RR.tup [Sum.inr [Rc.d (D.int IntKind.i64 y2.r0), Rc.d (D.int IntKind.i64 y2.r1), Rc.d (D.int IntKind.i64 y2.r2), Rc.d (D.int IntKind.i64 y2.r3), Rc.new (1 : Nat) (rowsOn y2.mem), Rc.new (1 : Nat) (rowsOn y2.stack), Rc.d (D.int IntKind.i64 y2.pc)], Sum.inl Rc.nil, Sum.inl (Rc.d (D.int IntKind.i64 (2 : Int)))])))
     (VC.br (decide ((↑(List.length (rowsOn y3.mem)) : Int) ≤ y7.fst))
      (VC.ret (some (RR.tup [Sum.inr [Rc.d (D.int IntKind.i64 y2.r0), Rc.d (D.int IntKind.i64 y2.r1), Rc.d (D.int IntKind.i64 y2.r2), Rc.d (D.int IntKind.i64 y2.r3), Rc.new (1 : Nat) (rowsOn y2.mem), Rc.new (1 : Nat) (rowsOn y2.stack), Rc.d (D.int IntKind.i64 y2.pc)], Sum.inl Rc.nil, Sum.inl (Rc.d (D.int IntKind.i64 (2 : Int)))])))
      (VC.br (y4.kind == (2 : Int))
       (VC.need ((0 : Int) ≤ y7.fst ∧ y7.fst < (↑(List.length (rowsOn y3.mem)) : Int))
       (VC.need (Int.toNat y7.fst < List.length (rowsOn y3.mem) ∧ List.length (rowAt (rowsOn y3.mem) (Int.toNat y7.fst)) = (1 : Nat) ∧ okSh [Kd.int IntKind.i64] (List.drop (0 : Nat) (rowAt (rowsOn y3.mem) (Int.toNat y7.fst))))
       (VC.br (decide ((0 : Int) ≤ y4.d))
        (VC.br (decide (y4.d < (4 : Int)))
         (VC.br (decide (y4.d = (0 : Int)))
          (VC.ret (some (RR.tup [Sum.inr [Rc.d (D.int IntKind.i64 (asInt (List.getD (List.drop (0 : Nat) (rowAt (rowsOn y3.mem) (Int.toNat y7.fst))) (0 : Nat) D.nilp))), Rc.d (D.int IntKind.i64 y3.r1), Rc.d (D.int IntKind.i64 y3.r2), Rc.d (D.int IntKind.i64 y3.r3), Rc.new (1 : Nat) (rowsOn y3.mem), Rc.new (1 : Nat) (rowsOn y3.stack), Rc.d (D.int IntKind.i64 (IntKind.wrap IntKind.i64 (y3.pc + (1 : Int))))], Sum.inl (Rc.new (2 : Nat) [[D.int IntKind.i64 (1 : Int), D.int IntKind.i64 y7.fst]]), Sum.inl (Rc.d (D.int IntKind.i64 (0 : Int)))])))
          (VC.br (decide (y4.d = (1 : Int)))
           (VC.ret (some (RR.tup [Sum.inr [Rc.d (D.int IntKind.i64 y3.r0), Rc.d (D.int IntKind.i64 (asInt (List.getD (List.drop (0 : Nat) (rowAt (rowsOn y3.mem) (Int.toNat y7.fst))) (0 : Nat) D.nilp))), Rc.d (D.int IntKind.i64 y3.r2), Rc.d (D.int IntKind.i64 y3.r3), Rc.new (1 : Nat) (rowsOn y3.mem), Rc.new (1 : Nat) (rowsOn y3.stack), Rc.d (D.int IntKind.i64 (IntKind.wrap IntKind.i64 (y3.pc + (1 : Int))))], Sum.inl (Rc.new (2 : Nat) [[D.int IntKind.i64 (1 : Int), D.int IntKind.i64 y7.fst]]), Sum.inl (Rc.d (D.int IntKind.i64 (0 : Int)))])))
           (VC.br (decide (y4.d = (2 : Int)))
            (VC.ret (some (RR.tup [Sum.inr [Rc.d (D.int IntKind.i64 y3.r0), Rc.d (D.int IntKind.i64 y3.r1), Rc.d (D.int IntKind.i64 (asInt (List.getD (List.drop (0 : Nat) (rowAt (rowsOn y3.mem) (Int.toNat y7.fst))) (0 : Nat) D.nilp))), Rc.d (D.int IntKind.i64 y3.r3), Rc.new (1 : Nat) (rowsOn y3.mem), Rc.new (1 : Nat) (rowsOn y3.stack), Rc.d (D.int IntKind.i64 (IntKind.wrap IntKind.i64 (y3.pc + (1 : Int))))], Sum.inl (Rc.new (2 : Nat) [[D.int IntKind.i64 (1 : Int), D.int IntKind.i64 y7.fst]]), Sum.inl (Rc.d (D.int IntKind.i64 (0 : Int)))])))
            (VC.br (decide (y4.d = (3 : Int)))
             (VC.ret (some (RR.tup [Sum.inr [Rc.d (D.int IntKind.i64 y3.r0), Rc.d (D.int IntKind.i64 y3.r1), Rc.d (D.int IntKind.i64 y3.r2), Rc.d (D.int IntKind.i64 (asInt (List.getD (List.drop (0 : Nat) (rowAt (rowsOn y3.mem) (Int.toNat y7.fst))) (0 : Nat) D.nilp))), Rc.new (1 : Nat) (rowsOn y3.mem), Rc.new (1 : Nat) (rowsOn y3.stack), Rc.d (D.int IntKind.i64 (IntKind.wrap IntKind.i64 (y3.pc + (1 : Int))))], Sum.inl (Rc.new (2 : Nat) [[D.int IntKind.i64 (1 : Int), D.int IntKind.i64 y7.fst]]), Sum.inl (Rc.d (D.int IntKind.i64 (0 : Int)))])))
             VC.ff))))
         (VC.ret (some (RR.tup [Sum.inr [Rc.d (D.int IntKind.i64 y3.r0), Rc.d (D.int IntKind.i64 y3.r1), Rc.d (D.int IntKind.i64 y3.r2), Rc.d (D.int IntKind.i64 y3.r3), Rc.new (1 : Nat) (rowsOn y3.mem), Rc.new (1 : Nat) (rowsOn y3.stack), Rc.d (D.int IntKind.i64 (IntKind.wrap IntKind.i64 (y3.pc + (1 : Int))))], Sum.inl (Rc.new (2 : Nat) [[D.int IntKind.i64 (1 : Int), D.int IntKind.i64 y7.fst]]), Sum.inl (Rc.d (D.int IntKind.i64 (0 : Int)))]))))
        (VC.ret (some (RR.tup [Sum.inr [Rc.d (D.int IntKind.i64 y3.r0), Rc.d (D.int IntKind.i64 y3.r1), Rc.d (D.int IntKind.i64 y3.r2), Rc.d (D.int IntKind.i64 y3.r3), Rc.new (1 : Nat) (rowsOn y3.mem), Rc.new (1 : Nat) (rowsOn y3.stack), Rc.d (D.int IntKind.i64 (IntKind.wrap IntKind.i64 (y3.pc + (1 : Int))))], Sum.inl (Rc.new (2 : Nat) [[D.int IntKind.i64 (1 : Int), D.int IntKind.i64 y7.fst]]), Sum.inl (Rc.d (D.int IntKind.i64 (0 : Int)))]))))))
       (VC.need (PreOk c_sReg (Prg.of (Prg.cells p), Sta.of [D.int IntKind.i64 y3.r0, D.int IntKind.i64 y3.r1, D.int IntKind.i64 y3.r2, D.int IntKind.i64 y3.r3, D.sl (rowsOn y3.mem), D.sl (rowsOn y3.stack), D.int IntKind.i64 (IntKind.wrap IntKind.i64 (y3.pc + (1 : Int)))], y4.d) [A.agg (Prg.cells p), A.agg [D.int IntKind.i64 y3.r0, D.int IntKind.i64 y3.r1, D.int IntKind.i64 y3.r2, D.int IntKind.i64 y3.r3, D.sl (rowsOn y3.mem), D.sl (rowsOn y3.stack), D.int IntKind.i64 (IntKind.wrap IntKind.i64 (y3.pc + (1 : Int)))], A.c (D.int IntKind.i64 y4.d)])
       (VC.all (v_sReg (Prg.of (Prg.cells p), Sta.of [D.int IntKind.i64 y3.r0, D.int IntKind.i64 y3.r1, D.int IntKind.i64 y3.r2, D.int IntKind.i64 y3.r3, D.sl (rowsOn y3.mem), D.sl (rowsOn y3.stack), D.int IntKind.i64 (IntKind.wrap IntKind.i64 (y3.pc + (1 : Int)))], y4.d)) fun (y8 : Int) =>
       (VC.need ((0 : Int) ≤ y7.fst ∧ y7.fst < (↑(List.length (rowsOn y3.mem)) : Int))
       (VC.need (Int.toNat y7.fst < List.length (rowsOn y3.mem) ∧ List.length (rowAt (rowsOn y3.mem) (Int.toNat y7.fst)) = (1 : Nat) ∧ (1 : Nat) ≤ (1 : Nat))
       (VC.ret (some (RR.tup [Sum.inr [Rc.d (D.int IntKind.i64 y3.r0), Rc.d (D.int IntKind.i64 y3.r1), Rc.d (D.int IntKind.i64 y3.r2), Rc.d (D.int IntKind.i64 y3.r3), Rc.new (1 : Nat) (List.set (rowsOn y3.mem) (Int.toNat y7.fst) (splice (rowAt (rowsOn y3.mem) (Int.toNat y7.fst)) (0 : Nat) [D.int IntKind.i64 y8])), Rc.new (1 : Nat) (rowsOn y3.stack), Rc.d (D.int IntKind.i64 (IntKind.wrap IntKind.i64 (y3.pc + (1 : Int))))], Sum.inl (Rc.new (2 : Nat) [[D.int IntKind.i64 (2 : Int), D.int IntKind.i64 y7.fst]]), Sum.inl (Rc.d (D.int IntKind.i64 (0 : Int)))]))))))))))))))))
    (VC.br (y4.kind == (5 : Int))
     (VC.need (PreOk c_sVal (Prg.of (Prg.cells p), Sta.of (Sta.cells y3), y4.aR, y4.aN) [A.agg (Prg.cells p), A.agg (Sta.cells y3), A.agg [D.bool y4.aR, D.int IntKind.i64 y4.aN]])
     (VC.all (v_sVal (Prg.of (Prg.cells p), Sta.of (Sta.cells y3), y4.aR, y4.aN)) fun (y5 : Int) =>
     (VC.need (PreOk c_sVal (Prg.of (Prg.cells p), Sta.of (Sta.cells y3), y4.bR, y4.bN) [A.agg (Prg.cells p), A.agg (Sta.cells y3), A.agg [D.bool y4.bR, D.int IntKind.i64 y4.bN]])
     (VC.all (v_sVal (Prg.of (Prg.cells p), Sta.of (Sta.cells y3), y4.bR, y4.bN)) fun (y6 : Int) =>
     (VC.need (PreOk c_sWay (Prg.of (Prg.cells p), Row.of [D.int IntKind.i64 y4.kind, D.int IntKind.i64 y4.op, D.int IntKind.i64 y4.d, D.bool y4.aR, D.int IntKind.i64 y4.aN, D.bool y4.bR, D.int IntKind.i64 y4.bN, D.str y4.name, D.int IntKind.i64 y4.target], y3.pc, y5, y6) [A.agg (Prg.cells p), A.agg [D.int IntKind.i64 y4.kind, D.int IntKind.i64 y4.op, D.int IntKind.i64 y4.d, D.bool y4.aR, D.int IntKind.i64 y4.aN, D.bool y4.bR, D.int IntKind.i64 y4.bN, D.str y4.name, D.int IntKind.i64 y4.target], A.c (D.int IntKind.i64 y3.pc), A.c (D.int IntKind.i64 y5), A.c (D.int IntKind.i64 y6)])
     (VC.all (v_sWay (Prg.of (Prg.cells p), Row.of [D.int IntKind.i64 y4.kind, D.int IntKind.i64 y4.op, D.int IntKind.i64 y4.d, D.bool y4.aR, D.int IntKind.i64 y4.aN, D.bool y4.bR, D.int IntKind.i64 y4.bN, D.str y4.name, D.int IntKind.i64 y4.target], y3.pc, y5, y6)) fun (y7 : Int) =>
     (VC.ret (some (RR.tup [Sum.inr [Rc.d (D.int IntKind.i64 y3.r0), Rc.d (D.int IntKind.i64 y3.r1), Rc.d (D.int IntKind.i64 y3.r2), Rc.d (D.int IntKind.i64 y3.r3), Rc.new (1 : Nat) (rowsOn y3.mem), Rc.new (1 : Nat) (rowsOn y3.stack), Rc.d (D.int IntKind.i64 y7)], Sum.inl (Rc.new (2 : Nat) [[D.int IntKind.i64 (3 : Int), D.int IntKind.i64 y7]]), Sum.inl (Rc.d (D.int IntKind.i64 (0 : Int)))])))))))))
     (VC.br (y4.kind == (7 : Int))
      (VC.need (PreOk c_sVal (Prg.of (Prg.cells p), Sta.of (Sta.cells y3), y4.aR, y4.aN) [A.agg (Prg.cells p), A.agg (Sta.cells y3), A.agg [D.bool y4.aR, D.int IntKind.i64 y4.aN]])
      (VC.all (v_sVal (Prg.of (Prg.cells p), Sta.of (Sta.cells y3), y4.aR, y4.aN)) fun (y5 : Int) =>
      (VC.need (PreOk c_sVal (Prg.of (Prg.cells p), Sta.of (Sta.cells y3), y4.bR, y4.bN) [A.agg (Prg.cells p), A.agg (Sta.cells y3), A.agg [D.bool y4.bR, D.int IntKind.i64 y4.bN]])
      (VC.all (v_sVal (Prg.of (Prg.cells p), Sta.of (Sta.cells y3), y4.bR, y4.bN)) fun (y6 : Int) =>
      (VC.need (PreOk c_sWay (Prg.of (Prg.cells p), Row.of [D.int IntKind.i64 y4.kind, D.int IntKind.i64 y4.op, D.int IntKind.i64 y4.d, D.bool y4.aR, D.int IntKind.i64 y4.aN, D.bool y4.bR, D.int IntKind.i64 y4.bN, D.str y4.name, D.int IntKind.i64 y4.target], y3.pc, y5, y6) [A.agg (Prg.cells p), A.agg [D.int IntKind.i64 y4.kind, D.int IntKind.i64 y4.op, D.int IntKind.i64 y4.d, D.bool y4.aR, D.int IntKind.i64 y4.aN, D.bool y4.bR, D.int IntKind.i64 y4.bN, D.str y4.name, D.int IntKind.i64 y4.target], A.c (D.int IntKind.i64 y3.pc), A.c (D.int IntKind.i64 y5), A.c (D.int IntKind.i64 y6)])
      (VC.all (v_sWay (Prg.of (Prg.cells p), Row.of [D.int IntKind.i64 y4.kind, D.int IntKind.i64 y4.op, D.int IntKind.i64 y4.d, D.bool y4.aR, D.int IntKind.i64 y4.aN, D.bool y4.bR, D.int IntKind.i64 y4.bN, D.str y4.name, D.int IntKind.i64 y4.target], y3.pc, y5, y6)) fun (y7 : Int) =>
      (VC.ret (some (RR.tup [Sum.inr [Rc.d (D.int IntKind.i64 y3.r0), Rc.d (D.int IntKind.i64 y3.r1), Rc.d (D.int IntKind.i64 y3.r2), Rc.d (D.int IntKind.i64 y3.r3), Rc.new (1 : Nat) (rowsOn y3.mem), Rc.new (1 : Nat) (rowsOn y3.stack), Rc.d (D.int IntKind.i64 y7)], Sum.inl (Rc.new (2 : Nat) [[D.int IntKind.i64 (3 : Int), D.int IntKind.i64 y7]]), Sum.inl (Rc.d (D.int IntKind.i64 (0 : Int)))])))))))))
      (VC.br (y4.kind == (6 : Int))
       (VC.ret (some (RR.tup [Sum.inr [Rc.d (D.int IntKind.i64 y3.r0), Rc.d (D.int IntKind.i64 y3.r1), Rc.d (D.int IntKind.i64 y3.r2), Rc.d (D.int IntKind.i64 y3.r3), Rc.new (1 : Nat) (rowsOn y3.mem), Rc.new (1 : Nat) (rowsOn y3.stack), Rc.d (D.int IntKind.i64 y4.target)], Sum.inl Rc.nil, Sum.inl (Rc.d (D.int IntKind.i64 (0 : Int)))])))
       (VC.br (y4.kind == (8 : Int))
        (VC.br (decide ((4 : Int) ≤ (↑(List.length (rowsOn y3.stack)) : Int)))
         (VC.ret (some (RR.tup [Sum.inr [Rc.d (D.int IntKind.i64 y2.r0), Rc.d (D.int IntKind.i64 y2.r1), Rc.d (D.int IntKind.i64 y2.r2), Rc.d (D.int IntKind.i64 y2.r3), Rc.new (1 : Nat) (rowsOn y2.mem), Rc.new (1 : Nat) (rowsOn y2.stack), Rc.d (D.int IntKind.i64 y2.pc)], Sum.inl Rc.nil, Sum.inl (Rc.d (D.int IntKind.i64 (2 : Int)))])))
         (VC.need ((List.all [[D.int IntKind.i64 (IntKind.wrap IntKind.i64 (y3.pc + (1 : Int)))]] fun r ↦ List.length r == (1 : Nat)) = true ∧ (List.all (rowsOn y3.stack) fun r ↦ List.length r == (1 : Nat)) = true ∧ (List.length (rowsOn y3.stack) + List.length [[D.int IntKind.i64 (IntKind.wrap IntKind.i64 (y3.pc + (1 : Int)))]] + (100 : Nat)) * (9 : Nat) ≤ (70368744177664 : Nat))
         (VC.ret (some (RR.tup [Sum.inr [Rc.d (D.int IntKind.i64 y3.r0), Rc.d (D.int IntKind.i64 y3.r1), Rc.d (D.int IntKind.i64 y3.r2), Rc.d (D.int IntKind.i64 y3.r3), Rc.new (1 : Nat) (rowsOn y3.mem), Rc.new (1 : Nat) (rowsOn y3.stack ++ [[D.int IntKind.i64 (IntKind.wrap IntKind.i64 (y3.pc + (1 : Int)))]]), Rc.d (D.int IntKind.i64 y4.target)], Sum.inl Rc.nil, Sum.inl (Rc.d (D.int IntKind.i64 (0 : Int)))])))))
        (VC.br (y4.kind == (9 : Int))
         (VC.br ((↑(List.length (rowsOn y3.stack)) : Int) == (0 : Int))
          (VC.ret (some (RR.tup [Sum.inr [Rc.d (D.int IntKind.i64 y2.r0), Rc.d (D.int IntKind.i64 y2.r1), Rc.d (D.int IntKind.i64 y2.r2), Rc.d (D.int IntKind.i64 y2.r3), Rc.new (1 : Nat) (rowsOn y2.mem), Rc.new (1 : Nat) (rowsOn y2.stack), Rc.d (D.int IntKind.i64 y2.pc)], Sum.inl Rc.nil, Sum.inl (Rc.d (D.int IntKind.i64 (2 : Int)))])))
          (VC.need ((0 : Int) ≤ IntKind.wrap IntKind.i64 ((↑(List.length (rowsOn y3.stack)) : Int) - (1 : Int)) ∧ IntKind.wrap IntKind.i64 ((↑(List.length (rowsOn y3.stack)) : Int) - (1 : Int)) < (↑(List.length (rowsOn y3.stack)) : Int))
          (VC.need (Int.toNat (IntKind.wrap IntKind.i64 ((↑(List.length (rowsOn y3.stack)) : Int) - (1 : Int))) < List.length (rowsOn y3.stack) ∧ List.length (rowAt (rowsOn y3.stack) (Int.toNat (IntKind.wrap IntKind.i64 ((↑(List.length (rowsOn y3.stack)) : Int) - (1 : Int))))) = (1 : Nat) ∧ okSh [Kd.int IntKind.i64] (List.drop (0 : Nat) (rowAt (rowsOn y3.stack) (Int.toNat (IntKind.wrap IntKind.i64 ((↑(List.length (rowsOn y3.stack)) : Int) - (1 : Int)))))))
          (VC.need ((0 : Int) ≤ IntKind.wrap IntKind.i64 ((↑(List.length (rowsOn y3.stack)) : Int) - (1 : Int)) ∧ IntKind.wrap IntKind.i64 ((↑(List.length (rowsOn y3.stack)) : Int) - (1 : Int)) ≤ (↑(List.length (rowsOn y3.stack)) : Int))
          (VC.ret (some (RR.tup [Sum.inr [Rc.d (D.int IntKind.i64 y3.r0), Rc.d (D.int IntKind.i64 y3.r1), Rc.d (D.int IntKind.i64 y3.r2), Rc.d (D.int IntKind.i64 y3.r3), Rc.new (1 : Nat) (rowsOn y3.mem), Rc.new (1 : Nat) (List.take (Int.toNat (IntKind.wrap IntKind.i64 ((↑(List.length (rowsOn y3.stack)) : Int) - (1 : Int)))) (rowsOn y3.stack)), Rc.d (D.int IntKind.i64 (asInt (List.getD (List.drop (0 : Nat) (rowAt (rowsOn y3.stack) (Int.toNat (IntKind.wrap IntKind.i64 ((↑(List.length (rowsOn y3.stack)) : Int) - (1 : Int)))))) (0 : Nat) D.nilp)))], Sum.inl (Rc.new (2 : Nat) [[D.int IntKind.i64 (3 : Int), D.int IntKind.i64 (asInt (List.getD (List.drop (0 : Nat) (rowAt (rowsOn y3.stack) (Int.toNat (IntKind.wrap IntKind.i64 ((↑(List.length (rowsOn y3.stack)) : Int) - (1 : Int)))))) (0 : Nat) D.nilp))]]), Sum.inl (Rc.d (D.int IntKind.i64 (0 : Int)))])))))))
         (VC.br (y4.kind == (10 : Int))
          (VC.ret (some (RR.tup [Sum.inr [Rc.d (D.int IntKind.i64 y3.r0), Rc.d (D.int IntKind.i64 y3.r1), Rc.d (D.int IntKind.i64 y3.r2), Rc.d (D.int IntKind.i64 y3.r3), Rc.new (1 : Nat) (rowsOn y3.mem), Rc.new (1 : Nat) (rowsOn y3.stack), Rc.d (D.int IntKind.i64 (IntKind.wrap IntKind.i64 (y3.pc + (1 : Int))))], Sum.inl Rc.nil, Sum.inl (Rc.d (D.int IntKind.i64 (0 : Int)))])))
          (VC.br (y4.kind == (11 : Int))
           (VC.ret (some (RR.tup [Sum.inr [Rc.d (D.int IntKind.i64 y2.r0), Rc.d (D.int IntKind.i64 y2.r1), Rc.d (D.int IntKind.i64 y2.r2), Rc.d (D.int IntKind.i64 y2.r3), Rc.new (1 : Nat) (rowsOn y2.mem), Rc.new (1 : Nat) (rowsOn y2.stack), Rc.d (D.int IntKind.i64 y2.pc)], Sum.inl Rc.nil, Sum.inl (Rc.d (D.int IntKind.i64 (1 : Int)))])))
           (VC.ret (some (RR.tup [Sum.inr [Rc.d (D.int IntKind.i64 y2.r0), Rc.d (D.int IntKind.i64 y2.r1), Rc.d (D.int IntKind.i64 y2.r2), Rc.d (D.int IntKind.i64 y2.r3), Rc.new (1 : Nat) (rowsOn y2.mem), Rc.new (1 : Nat) (rowsOn y2.stack), Rc.d (D.int IntKind.i64 y2.pc)], Sum.inl Rc.nil, Sum.inl (Rc.d (D.int IntKind.i64 (2 : Int)))])))))))))))))))))))) := by kernel_rfl
def c_stepF : FT (Prg × Sta) := ⟨32, fun x => [ap x.1, as_ x.2], rdPS, fun x => Mems x.1.mems ∧ SmallS x.2 ∧ x.1.ins.length ≤ 1000000, fun x => rstepN (stepS x.1 x.2), false, fun x => by simp [ap, as_, rdPS]⟩
theorem c_stepF_good : c_stepF.fe.Good Try.prog := by
  refine FT.good c_stepF ⟨Try.f32, by kernel_rfl, by decide +kernel, by kernel_rfl⟩ (fun ⟨p, s⟩ => by first | rfl | simp [c_stepF, rrRef, rrun, rstep, rins, rnum, rby, rss, rnewI, rnewE, rstab, rplaces, ri, rb, rib, rstepN, Sta.fresh]) fun ⟨p, s⟩ hp => ?_
  refine acalls_leZ Z_own_ok s_stepF_sound (fn := Try.f32) (a := a_stepF) (nargs := 2) (tbl := []) (by kernel_rfl) (by kernel_rfl) rfl (m := 400) ?_
  show VC.holds _ _ _ (a_stepF.start s_stepF 400 [ap p, as_ s])
  rw [t_stepF]
  try simp only [asRows_sl, asInt_int, asBool_bool, asStr_str, listOf_rowsOn, List.drop_zero, Prg.eta, Sta.eta, rowsOn_length, getD_drop, Nat.reduceAdd, rd_int, rd_PMem_name, rd_PMem_secret, rd_PMem_n, rd_PLabel_name, rd_PLabel_at_, rd_Ins_kind, rd_Ins_op, rd_Ins_d, rd_Ins_aR, rd_Ins_aN, rd_Ins_bR, rd_Ins_bN, rd_Ins_name, rd_Ins_target, rd_Ent_pc, rd_Ent_val, rd_Ent_addr, rd_Ent_fro, rd_Ent_next, rd_Ent_done, rd_Ent_known, rd_Ent_fault, rd_Place_reg, rd_Place_n, rd_Place_secret, rd_Obs_kind, rd_Obs_at_, rd_Dir_kind, rd_Dir_n, Prg.of_cells, Sta.of_cells]
  try simp only [c_stepF] at hp
  obtain ⟨hm, hs, hl⟩ := hp
  have e : c_stepF.ans (p, s) = rstepN (stepS p s) := rfl
  rw [e]
  refine ⟨PreOk.mk hs rfl, all_holds fun y2 e2 => ⟨PreOk.mk hs rfl, all_holds fun y3 e3 => ?_⟩⟩
  replace e2 : s = y2 := e2.symm
  replace e3 : s = y3 := e3.symm
  subst e2
  subst e3
  refine ⟨PreOk.mk trivial rfl, all_holds fun i e4 => ?_⟩
  replace e4 : i = atS p.ins s.pc := e4
  have hr : i.kind ≠ 12 → IntKind.wrap .i64 (s.pc + 1) = s.pc + 1 := fun h => by
    have := at_range (l := p.ins) (pc := s.pc) (by rw [← e4]; exact h)
    exact wrap_small _ (by omega) (by omega)
  have hst := hs.2
  have hw1 : IntKind.wrap .i64 ((s.stack.length : Int) - 1) = (s.stack.length : Int) - 1 := wrap_small _ (by omega) (by omega)
  have et : List.take (Int.toNat ((s.stack.length : Int) - 1)) (rowsOn s.stack) = rowsOn s.stack.dropLast := by
    rw [show Int.toNat ((s.stack.length : Int) - 1) = s.stack.length - 1 by omega, List.dropLast_eq_take]
    unfold rowsOn
    rw [List.map_take]
  simp only [hw1, et]
  repeat' first
    | refine br_not ?_
    | refine br_dec (fun _ => ?_) (fun _ => ?_)
    | refine br_beq (fun _ => ?_) (fun _ => ?_)
    | refine br_bne (fun _ => ?_) (fun _ => ?_)
    | refine br_holds (fun _ => ?_) (fun _ => ?_)
    | refine ⟨PreOk.mk ?_ rfl, ?_⟩
    | refine ⟨idx_ok _ _ _ rfl (by omega) (by omega), ?_⟩
    | refine ⟨okSh_ok _ _ _ (fun _ => rfl) (by omega) (by omega), ?_⟩
    | refine ⟨okSh_okD _ _ _ _ (fun _ => rfl) (by omega) (by omega), ?_⟩
    | refine ⟨aload_ok _ _ rfl (fun _ => rfl) (by omega) (by omega), ?_⟩
    | refine ⟨aload_okD _ _ _ rfl (fun _ => rfl) (by omega) (by omega), ?_⟩
    | refine ⟨astore_ok (by assumption) rfl (by omega) (by omega) (by decide), ?_⟩
    | refine ⟨app_ok (by assumption) rfl rfl (by simp only [List.length_cons, List.length_nil]; omega), ?_⟩
    | refine need_holds ?_ fun _ => ?_
    | refine all_holds fun y hy => ?_
    | refine ret_le ?_
  all_goals subst_vars
  all_goals try exact trivial
  all_goals try (exfalso; omega)
  all_goals try simp only [v_sValue, v_sVal, v_sReg, v_sAddr, v_sWay, ins_eta] at *
  all_goals try (simp [RR.le, Rc.le1s, Rc.le1, Rc.les, rstepN, Sta.fresh, stepS, Sta.setReg, v_sJump, v_sBack, rowsOn_nil, obs_row, jumpS, backS, *]; done)
  all_goals try (rename_i h; simp [RR.le, Rc.le1s, Rc.le1, Rc.les, rstepN, Sta.fresh, stepS, Sta.cells, v_sJump, v_sBack, rowsOn_nil, obs_row, jumpS, backS, setReg_out s _ (show (atS p.ins s.pc).d < 0 ∨ 4 ≤ (atS p.ins s.pc).d by omega), *]; done)
  all_goals try exact ⟨hm, (valS_range ..).1, (valS_range ..).2, (valS_range ..).1, (valS_range ..).2⟩
  all_goals try exact PreOk.mk trivial (by simp [c_sReg, Sta.of, as_, Sta.cells, ap, ai])
  all_goals try exact hs
  all_goals try exact ⟨rfl, all1 _, by simp only [List.length_cons, List.length_nil]; have := hs.2; omega⟩
  all_goals try (have hrg := at_range (l := p.ins) (pc := s.pc) (by rw [show (atS p.ins s.pc).kind = _ from ‹_›]; decide); exact ⟨by dsimp only; omega, by dsimp only; omega⟩)
  all_goals try simp only [← Int.not_lt, Classical.not_not, decide_eq_true_eq, decide_eq_false_iff_not] at *
  all_goals try (have hda := of_decide_eq_true (p := maskS p.w (valS p.w s (atS p.ins s.pc).aR (atS p.ins s.pc).aN + valS p.w s (atS p.ins s.pc).bR (atS p.ins s.pc).bN) < cellsS p.mems) (by assumption))
  all_goals try (have hda := of_decide_eq_false (p := maskS p.w (valS p.w s (atS p.ins s.pc).aR (atS p.ins s.pc).aN + valS p.w s (atS p.ins s.pc).bR (atS p.ins s.pc).bN) < cellsS p.mems) (by assumption))
  all_goals have hA0 := (maskS_range p.w (valS p.w s (atS p.ins s.pc).aR (atS p.ins s.pc).aN + valS p.w s (atS p.ins s.pc).bR (atS p.ins s.pc).bN)).1
  all_goals try exact ⟨by omega, (idx_ok s.mem _ 1 rfl hA0 (by assumption)).2.2, by decide⟩
  all_goals try exact ⟨by have := maskS_range p.w (valS p.w s (atS p.ins s.pc).aR (atS p.ins s.pc).aN + valS p.w s (atS p.ins s.pc).bR (atS p.ins s.pc).bN); omega, by assumption⟩
  all_goals try (simp [RR.le, Rc.le1s, Rc.le1, Rc.les, rstepN, Sta.fresh, stepS, Sta.setReg, v_sJump, v_sBack, rowsOn_nil, obs_row, jumpS, backS, *]; done)
  all_goals try (rename_i h; simp [RR.le, Rc.le1s, Rc.le1, Rc.les, rstepN, Sta.fresh, stepS, Sta.cells, v_sJump, v_sBack, rowsOn_nil, obs_row, jumpS, backS, setReg_out s _ (show (atS p.ins s.pc).d < 0 ∨ 4 ≤ (atS p.ins s.pc).d by omega), *]; done)
  · have hx := (OnL.set (R := rowsOn s.mem) (n := s.mem.length) (l := s.mem) ⟨rfl, rfl⟩ hA0 (by assumption) (maskS p.w (s.reg (atS p.ins s.pc).d))).1
    have er : (Sta.of s.cells).reg (atS p.ins s.pc).d = s.reg (atS p.ins s.pc).d := by rw [Sta.of_cells]
    simp only [Sta.of_cells] at *
    simp [RR.le, Rc.le1s, Rc.le1, Rc.les, rstepN, Sta.fresh, stepS, Sta.cells, rowsOn_nil, obs_row, Sta.of, Sta.reg, *]
    unfold Sta.reg at hx
    exact (show ∀ X Y : List (List D), X = Y → (Rc.new 1 X).le (Rc.new 1 Y) from fun X Y h => h ▸ Rc.le_refl _) _ _ hx
  · have h4 : 4 ≤ s.stack.length := by omega
    simp [RR.le, Rc.le1s, Rc.le1, Rc.les, rstepN, Sta.fresh, stepS, Sta.cells, rowsOn_nil, obs_row, *]
  · have h4 : ¬ 4 ≤ s.stack.length := by omega
    have es : rowsOn s.stack ++ [[D.int .i64 (IntKind.wrap .i64 (s.pc + 1))]] = rowsOn (s.stack ++ [IntKind.wrap .i64 (s.pc + 1)]) := rowsOn_snoc _ _
    rw [es]
    simp [RR.le, Rc.le1s, Rc.le1, Rc.les, rstepN, Sta.fresh, stepS, Sta.cells, rowsOn_nil, obs_row, *]
  · have h0 : s.stack = [] := List.eq_nil_of_length_eq_zero (by omega)
    simp [RR.le, Rc.le1s, Rc.le1, Rc.les, rstepN, Sta.fresh, stepS, Sta.cells, rowsOn_nil, obs_row, h0, *]
  · omega
  · omega
  · have h0 : ¬ s.stack = [] := fun h => by
      have hz : s.stack.length = 0 := by rw [h]; rfl
      omega
    simp [RR.le, Rc.le1s, Rc.le1, Rc.les, rstepN, Sta.fresh, stepS, Sta.cells, rowsOn_nil, obs_row, h0, *]
noncomputable def v_stepF : Prg × Sta → Sta × List Obs × Int := fun x => stepS x.1 x.2
noncomputable def sh_stepF : Sta × List Obs × Int → RR := fun x => rstepN x
theorem e_stepF (x : Prg × Sta) : sh_stepF (v_stepF x) = c_stepF.ans x := rfl
end Go.Proofs.Ytmhfhobaicklmaa.Ax
end

section
/- The statement SeqmOwn. -/
namespace Go.Proofs.Ytmhfhobaicklmaa.Ax
open Go.RowKit
set_option linter.unusedVariables false
set_option linter.unusedSimpArgs false
def rdLLI0 : List A → List Int × List Int × Int
  | [.c (.sl l), .c (.sl m), .c (.int _ i)] => (listOf Int l, listOf Int m, i)
  | _ => default
def c_lOwn8 : FT (List Int × List Int × Int) := ⟨10, fun x => [al x.1, al x.2.1, ai x.2.2], rdLLI0, fun _ => True, fun x => rb true, false, fun x => by simp [al, ai, rdLLI0]⟩
noncomputable def a_lOwn8 : FnA := (fnA Try.prog Try.f10 3 [(7, [7, 10, 14, 15, 55, 56]), (12, [7, 10, 14, 15, 72, 73])]).getD ⟨0, .skip, [], []⟩
noncomputable def s_lOwn8 : Sp := spT [c_make.gfe v_make sh_make e_make, c_states.gfe v_states sh_states e_states, c_run.gfe v_run sh_run e_run, c_rCode.fe, c_stepF.gfe v_stepF sh_stepF e_stepF, c_rStep.gfe v_rStep sh_rStep e_rStep, c_rSame.gfe v_rSame sh_rSame e_rSame, c_awake8.fe]
theorem s_lOwn8_sound : s_lOwn8.sound Try.prog := spT_sound fun e he => by
  simp only [List.mem_cons, List.not_mem_nil, or_false] at he
  rcases he with rfl | rfl | rfl | rfl | rfl | rfl | rfl | rfl
  · exact FT.gfe_good c_make_good
  · exact FT.gfe_good c_states_good
  · exact FT.gfe_good c_run_good
  · exact c_rCode_good
  · exact FT.gfe_good c_stepF_good
  · exact FT.gfe_good c_rStep_good
  · exact FT.gfe_good c_rSame_good
  · exact c_awake8_good
def Z_o8 (p : Prg) (s : Sta) (C : List (List D)) (t0 t1 t2 t3 pc : Int) (nm nk : Nat) (M K : List (List D)) : List (Nat × Blk) := [(448, bx p.cells), (640, bx s.cells), (960, bc [.d (.int .i64 t0), .d (.int .i64 t1), .d (.int .i64 t2), .d (.int .i64 t3), .own 3140 1 nm, .own 3141 1 nk, .d (.int .i64 pc)]), (2880, ba 1 C), (3140, ba 1 M), (3141, ba 1 K)]
def F_o0 (p : Prg) (s : Sta) (C : List (List D)) (nc : Nat) (t0 t1 t2 t3 pc : Int) (nm nk : Nat) (M K : List (List D)) (n j : Int) : St := ⟨mkS 114 [(7, vp 448), (10, vp 640), (14, vo 2880 nc), (15, vp 960), (55, vi n), (56, vi j)], Z_o8 p s C t0 t1 t2 t3 pc nm nk M K⟩
def F_o1 (p : Prg) (s : Sta) (C : List (List D)) (nc : Nat) (t0 t1 t2 t3 pc : Int) (nm nk : Nat) (M K : List (List D)) (n j : Int) : St := ⟨mkS 114 [(7, vp 448), (10, vp 640), (14, vo 2880 nc), (15, vp 960), (72, vi n), (73, vi j)], Z_o8 p s C t0 t1 t2 t3 pc nm nk M K⟩
set_option maxRecDepth 100000 in
theorem t_lOwn8 (m l : List Int) (n : Int) : a_lOwn8.start s_lOwn8 400 [al m, al l, ai n] =
(VC.need (PreOk c_make (m, ()) [A.c (D.sl (rowsOn m))])
(VC.all (v_make (listOf Int (rowsOn m), ())) fun (y3 : Prg) =>
(VC.need (PreOk c_states (Prg.of (Prg.cells y3), l, (1 : Int)) [A.agg (Prg.cells y3), A.c (D.sl (rowsOn l)), A.c (D.int IntKind.i64 (1 : Int))])
(VC.all (((startS (Prg.of (Prg.cells y3)) (toldS (List.length (placesS (Prg.of (Prg.cells y3)))) (padF (listOf Int (rowsOn l))) (List.length (placesS (Prg.of (Prg.cells y3)))))).fst, (startS (Prg.of (Prg.cells y3)) (toldS (List.length (placesS (Prg.of (Prg.cells y3)))) (twinF (1 : Int) (placesS (Prg.of (Prg.cells y3))) (listOf Int (rowsOn l))) (List.length (placesS (Prg.of (Prg.cells y3)))))).fst)) fun (y4 : Sta × Sta) =>
(VC.need (PreOk c_run (Prg.of (Prg.cells y3), Sta.of (Sta.cells y4.fst), bits BinOp.and IntKind.i64 n (15 : Int)) [A.agg (Prg.cells y3), A.agg (Sta.cells y4.fst), A.c (D.int IntKind.i64 (bits BinOp.and IntKind.i64 n (15 : Int)))])
(VC.all (v_run (Prg.of (Prg.cells y3), Sta.of (Sta.cells y4.fst), bits BinOp.and IntKind.i64 n (15 : Int))) fun (y5 : Sta × List Obs × Int × Int) =>
(VC.need (PreOk c_rCode (Sta.of (Sta.cells y5.fst), ()) [A.agg (Sta.cells y5.fst)])
(VC.need (PreOk c_stepF (Prg.of (Prg.cells y3), Sta.of (Sta.cells y5.fst)) [A.agg (Prg.cells y3), A.agg (Sta.cells y5.fst)])
(VC.all (v_stepF (Prg.of (Prg.cells y3), Sta.of (Sta.cells y5.fst))) fun (y6 : Sta × List Obs × Int) =>
(FnA.at_ a_lOwn8 0 (F_o0 y3 y5.fst (rowsOn (codeS (Sta.of (Sta.cells y5.fst)))) (List.length (rowsOn (codeS (Sta.of (Sta.cells y5.fst))))) y6.fst.r0 y6.fst.r1 y6.fst.r2 y6.fst.r3 y6.fst.pc (List.length (rowsOn y6.fst.mem)) (List.length (rowsOn y6.fst.stack)) (rowsOn y6.fst.mem) (rowsOn y6.fst.stack) (↑(List.length (rowsOn y6.fst.mem)) : Int) (0 : Int)))))))))))) := by kernel_rfl
set_option maxRecDepth 100000 in
theorem t_lOw0 (p : Prg) (s : Sta) (C : List (List D)) (nc : Nat) (t0 t1 t2 t3 pc : Int) (nm nk : Nat) (M K : List (List D)) (n j : Int) : a_lOwn8.round s_lOwn8 400 0 (F_o0 p s C nc t0 t1 t2 t3 pc nm nk M K n j) =
(VC.br (decide (j < n))
 (VC.need ((0 : Int) ≤ j ∧ j < (↑nm : Int))
 (VC.need (Int.toNat j < List.length M ∧ List.length (rowAt M (Int.toNat j)) = (1 : Nat) ∧ okSh [Kd.int IntKind.i64] (List.drop (0 : Nat) (rowAt M (Int.toNat j))))
 (VC.need ((0 : Int) ≤ j ∧ j < (↑nm : Int))
 (VC.need (Int.toNat j < List.length M ∧ List.length (rowAt M (Int.toNat j)) = (1 : Nat) ∧ (1 : Nat) ≤ (1 : Nat))
 (FnA.at_ a_lOwn8 0 (F_o0 p s C nc t0 t1 t2 t3 pc nm nk (List.set M (Int.toNat j) (splice (rowAt M (Int.toNat j)) (0 : Nat) [D.int IntKind.i64 (IntKind.wrap IntKind.i64 (asInt (List.getD (List.drop (0 : Nat) (rowAt M (Int.toNat j))) (0 : Nat) D.nilp) + (1 : Int)))])) K n (IntKind.wrap IntKind.i64 (j + (1 : Int)))))))))
 (FnA.at_ a_lOwn8 1 (F_o1 p s C nc t0 t1 t2 t3 pc nm nk M K (↑nk : Int) (0 : Int)))) := by kernel_rfl
set_option maxRecDepth 100000 in
theorem t_lOw1 (p : Prg) (s : Sta) (C : List (List D)) (nc : Nat) (t0 t1 t2 t3 pc : Int) (nm nk : Nat) (M K : List (List D)) (n j : Int) : a_lOwn8.round s_lOwn8 400 1 (F_o1 p s C nc t0 t1 t2 t3 pc nm nk M K n j) =
(VC.br (decide (j < n))
 (VC.need ((0 : Int) ≤ j ∧ j < (↑nk : Int))
 (VC.need (Int.toNat j < List.length K ∧ List.length (rowAt K (Int.toNat j)) = (1 : Nat) ∧ (1 : Nat) ≤ (1 : Nat))
 (FnA.at_ a_lOwn8 1 (F_o1 p s C nc t0 t1 t2 t3 pc nm nk M (List.set K (Int.toNat j) (splice (rowAt K (Int.toNat j)) (0 : Nat) [D.int IntKind.i64 (99 : Int)])) n (IntKind.wrap IntKind.i64 (j + (1 : Int)))))))
 (VC.need ((List.all [[D.int IntKind.i64 (5 : Int)]] fun r ↦ List.length r == (1 : Nat)) = true ∧ (List.all K fun r ↦ List.length r == (1 : Nat)) = true ∧ (List.length K + (1 : Nat) + (100 : Nat)) * (9 : Nat) ≤ (70368744177664 : Nat))
 (VC.need (PreOk c_stepF (Prg.of (Prg.cells p), Sta.of (Sta.cells s)) [A.agg (Prg.cells p), A.agg (Sta.cells s)])
 (VC.all (v_stepF (Prg.of (Prg.cells p), Sta.of (Sta.cells s))) fun (y15 : Sta × List Obs × Int) =>
 (VC.need (PreOk c_rStep (Prg.of (Prg.cells p), Sta.of (Sta.cells s)) [A.agg (Prg.cells p), A.agg (Sta.cells s)])
 (VC.all (v_rStep (Prg.of (Prg.cells p), Sta.of (Sta.cells s))) fun (y16 : Sta × List Obs × Int) =>
 (VC.need (PreOk c_rCode (Sta.of (Sta.cells s), ()) [A.agg (Sta.cells s)])
 (VC.need (rowsOn (codeS (Sta.of (Sta.cells s))) = List.map (fun r ↦ [D.int IntKind.u8 (asInt (List.getD r (0 : Nat) D.nilp))]) (rowsOn (codeS (Sta.of (Sta.cells s)))))
 (VC.need (C = List.map (fun r ↦ [D.int IntKind.u8 (asInt (List.getD r (0 : Nat) D.nilp))]) C)
 (VC.br (ByteArray.toList (strOfNums (List.map (fun r ↦ asInt (List.getD r (0 : Nat) D.nilp)) (rowsOn (codeS (Sta.of (Sta.cells s)))))) == ByteArray.toList (strOfNums (List.map (fun r ↦ asInt (List.getD r (0 : Nat) D.nilp)) C)))
  (VC.need (PreOk c_rSame (Sta.of (Sta.cells y15.fst), Sta.of (Sta.cells y16.fst)) [A.agg (Sta.cells y15.fst), A.agg (Sta.cells y16.fst)])
  (VC.all (v_rSame (Sta.of (Sta.cells y15.fst), Sta.of (Sta.cells y16.fst))) fun (y17 : Bool) =>
  (VC.br (y17)
   (VC.need (PreOk c_awake8 PUnit.unit [])
   (VC.ret (some (RR.c (Rc.d (D.bool true))))))
   (VC.ret (some (RR.c (Rc.d (D.bool false))))))))
  (VC.ret (some (RR.c (Rc.d (D.bool false))))))))))))))) := by kernel_rfl
theorem rowsOn_by (l : List By) : rowsOn l = List.map (fun r => [D.int IntKind.u8 (asInt (List.getD r 0 D.nilp))]) (rowsOn l) := by
  unfold rowsOn
  rw [List.map_map]
  rfl
theorem l_lOw1 (p : Prg) (s : Sta) (nc : Nat) (t0 t1 t2 t3 pc : Int) (nm nk : Nat) (M : List (List D)) (hp : PrgOk p) (hs : StaOk p s) (hk : nk ≤ 1000000) : ∀ i_ : List (List D) × Int, (fun (v : List (List D) × Int) => 0 ≤ v.2 ∧ ∃ kk : List Int, OnL v.1 nk kk) i_ → (a_lOwn8.at_ 1 ((fun (v : List (List D) × Int) => F_o1 p s (rowsOn (codeS s)) nc t0 t1 t2 t3 pc nm nk M v.1 nk v.2) i_)).holds s_lOwn8.cx a_lOwn8.rs (fun q => q.le (rb true)) := by
  refine loop_rule (a := a_lOwn8) (j := 1) (m := 400) s_lOwn8_sound (fun (v : List (List D) × Int) => F_o1 p s (rowsOn (codeS s)) nc t0 t1 t2 t3 pc nm nk M v.1 nk v.2) (fun (v : List (List D) × Int) => 0 ≤ v.2 ∧ ∃ kk : List Int, OnL v.1 nk kk) (fun (v : List (List D) × Int) => ((nk : Int) - v.2).toNat) ?_
  rintro ⟨K, j⟩ h_inv ih
  try dsimp only at h_inv
  replace ih := fun (v0 : List (List D)) (v1 : Int) => ih (v0, v1)
  try dsimp only at ih
  show VC.holds _ _ _ (a_lOwn8.round s_lOwn8 400 1 (F_o1 p s (rowsOn (codeS s)) nc t0 t1 t2 t3 pc nm nk M K nk j))
  rw [t_lOw1]
  try simp only [asRows_sl, asInt_int, asBool_bool, asStr_str, listOf_rowsOn, List.drop_zero, Prg.eta, Sta.eta, rowsOn_length, getD_drop, Nat.reduceAdd, rd_int, rd_PMem_name, rd_PMem_secret, rd_PMem_n, rd_PLabel_name, rd_PLabel_at_, rd_Ins_kind, rd_Ins_op, rd_Ins_d, rd_Ins_aR, rd_Ins_aN, rd_Ins_bR, rd_Ins_bN, rd_Ins_name, rd_Ins_target, rd_Ent_pc, rd_Ent_val, rd_Ent_addr, rd_Ent_fro, rd_Ent_next, rd_Ent_done, rd_Ent_known, rd_Ent_fault, rd_Place_reg, rd_Place_n, rd_Place_secret, rd_Obs_kind, rd_Obs_at_, rd_Dir_kind, rd_Dir_n, Prg.of_cells, Sta.of_cells]
  obtain ⟨h0, kk, hK⟩ := h_inv
  have hkl : kk.length = nk := hK.2.symm
  refine br_dec (fun hd => ?_) (fun hd => ?_)
  · rw [wrap_small (j + 1) (by omega) (by omega)]
    exact ⟨⟨h0, hd⟩, astore_ok hK rfl h0 (by omega) (by decide), ih _ _ ⟨by omega, _, hK.set h0 (by omega) (99 : Int)⟩ (by omega)⟩
  · refine ⟨app_ok hK rfl rfl (by simp only [List.length_cons, List.length_nil]; omega), PreOk.mk ⟨hp.mems, hs.small hp, hp.len⟩ rfl, all_holds fun u hu => ⟨PreOk.mk ⟨hp, hs⟩ rfl, all_holds fun v hv => ⟨PreOk.mk (hs.small hp) rfl, rowsOn_by _, rowsOn_by _, ?_⟩⟩⟩
    replace hu : u = stepS p s := hu
    replace hv : v = stepS p s := hv
    have hok := step_ok hp hs
    refine br_t (by simp) ⟨PreOk.mk ⟨by rw [hu]; exact hok.small hp, by rw [hv]; exact hok.small hp⟩ rfl, all_holds fun b hb => ?_⟩
    replace hb : b = true := by rw [hb, hu, hv]; simp [v_rSame]
    exact br_t hb ⟨PreOk.mk trivial rfl, ret_le (RR.le_refl _)⟩
theorem l_lOw0 (p : Prg) (s : Sta) (nc : Nat) (t0 t1 t2 t3 pc : Int) (nm nk : Nat) (K : List (List D)) (hp : PrgOk p) (hs : StaOk p s) (hm : nm ≤ 1000000) (hk : nk ≤ 1000000) (hK : ∃ kk : List Int, OnL K nk kk) : ∀ i_ : List (List D) × Int, (fun (v : List (List D) × Int) => 0 ≤ v.2 ∧ ∃ mm : List Int, OnL v.1 nm mm) i_ → (a_lOwn8.at_ 0 ((fun (v : List (List D) × Int) => F_o0 p s (rowsOn (codeS s)) nc t0 t1 t2 t3 pc nm nk v.1 K nm v.2) i_)).holds s_lOwn8.cx a_lOwn8.rs (fun q => q.le (rb true)) := by
  refine loop_rule (a := a_lOwn8) (j := 0) (m := 400) s_lOwn8_sound (fun (v : List (List D) × Int) => F_o0 p s (rowsOn (codeS s)) nc t0 t1 t2 t3 pc nm nk v.1 K nm v.2) (fun (v : List (List D) × Int) => 0 ≤ v.2 ∧ ∃ mm : List Int, OnL v.1 nm mm) (fun (v : List (List D) × Int) => ((nm : Int) - v.2).toNat) ?_
  rintro ⟨M, j⟩ h_inv ih
  try dsimp only at h_inv
  replace ih := fun (v0 : List (List D)) (v1 : Int) => ih (v0, v1)
  try dsimp only at ih
  show VC.holds _ _ _ (a_lOwn8.round s_lOwn8 400 0 (F_o0 p s (rowsOn (codeS s)) nc t0 t1 t2 t3 pc nm nk M K nm j))
  rw [t_lOw0]
  try simp only [asRows_sl, asInt_int, asBool_bool, asStr_str, listOf_rowsOn, List.drop_zero, Prg.eta, Sta.eta, rowsOn_length, getD_drop, Nat.reduceAdd, rd_int, rd_PMem_name, rd_PMem_secret, rd_PMem_n, rd_PLabel_name, rd_PLabel_at_, rd_Ins_kind, rd_Ins_op, rd_Ins_d, rd_Ins_aR, rd_Ins_aN, rd_Ins_bR, rd_Ins_bN, rd_Ins_name, rd_Ins_target, rd_Ent_pc, rd_Ent_val, rd_Ent_addr, rd_Ent_fro, rd_Ent_next, rd_Ent_done, rd_Ent_known, rd_Ent_fault, rd_Place_reg, rd_Place_n, rd_Place_secret, rd_Obs_kind, rd_Obs_at_, rd_Dir_kind, rd_Dir_n, Prg.of_cells, Sta.of_cells]
  obtain ⟨h0, mm, hM⟩ := h_inv
  have hml : mm.length = nm := hM.2.symm
  refine br_dec (fun hd => ?_) (fun hd => l_lOw1 p s nc t0 t1 t2 t3 pc nm nk M hp hs hk (K, 0) ⟨by dsimp only; omega, hK⟩)
  rw [wrap_small (j + 1) (by omega) (by omega)]
  have hR := hM.1
  refine ⟨⟨h0, hd⟩, ?_, ⟨h0, hd⟩, astore_ok hM rfl h0 (by omega) (by decide), ih _ _ ⟨by omega, _, hM.set h0 (by omega) (_ : Int)⟩ (by omega)⟩
  rw [hR]
  have := aload_ok mm j (n := 1) (sh := [Kd.int .i64]) rfl (fun _ => rfl) h0 (by omega)
  exact ⟨by rw [rowsOn_length]; exact this.1, this.2⟩
theorem c_lOwn8_good : c_lOwn8.fe.Good Try.prog := by
  refine FT.good c_lOwn8 ⟨Try.f10, by kernel_rfl, by decide +kernel, by kernel_rfl⟩ (fun ⟨m, l, n⟩ => by first | rfl | simp [c_lOwn8, rrRef, rstepN, rrun, rstep, rins, rnum, rby, rss, rnewI, rnewE, rstab, rplaces, ri, rb, rib, Sta.fresh]) fun ⟨m, l, n⟩ hp => ?_
  refine acalls_le s_lOwn8_sound (fn := Try.f10) (a := a_lOwn8) (nargs := 3) (tbl := [(7, [7, 10, 14, 15, 55, 56]), (12, [7, 10, 14, 15, 72, 73])]) (by kernel_rfl) (by kernel_rfl) rfl (m := 400) ?_
  show VC.holds _ _ _ (a_lOwn8.start s_lOwn8 400 [al m, al l, ai n])
  rw [t_lOwn8]
  try simp only [asRows_sl, asInt_int, asBool_bool, asStr_str, listOf_rowsOn, List.drop_zero, Prg.eta, Sta.eta, rowsOn_length, getD_drop, Nat.reduceAdd, rd_int, rd_PMem_name, rd_PMem_secret, rd_PMem_n, rd_PLabel_name, rd_PLabel_at_, rd_Ins_kind, rd_Ins_op, rd_Ins_d, rd_Ins_aR, rd_Ins_aN, rd_Ins_bR, rd_Ins_bN, rd_Ins_name, rd_Ins_target, rd_Ent_pc, rd_Ent_val, rd_Ent_addr, rd_Ent_fro, rd_Ent_next, rd_Ent_done, rd_Ent_known, rd_Ent_fault, rd_Place_reg, rd_Place_n, rd_Place_secret, rd_Obs_kind, rd_Obs_at_, rd_Dir_kind, rd_Dir_n, Prg.of_cells, Sta.of_cells]
  try simp only [c_lOwn8] at hp
  refine ⟨PreOk.mk trivial rfl, all_holds fun p hp0 => ?_⟩
  have hw : WFM p := by rw [hp0]; exact (makeS_spec _).1
  clear hp0
  have hp := hw.ok
  refine ⟨PreOk.mk hw.toMems rfl, all_holds fun s2 hs2 => ?_⟩
  replace hs2 : s2 = statesS p l 1 := hs2
  obtain ⟨hok, _, _, _, hst, _⟩ := states_ok hp l 1
  rw [← hs2] at hok hst
  clear hs2
  generalize s2.1 = a at hok hst ⊢
  have hN : 0 ≤ bits .and .i64 n 15 ∧ bits .and .i64 n 15 ≤ 15 := by
    have : bits .and .i64 n 15 = n % 16 := and_mask n 4 (by decide)
    rw [this]; omega
  refine ⟨PreOk.mk ⟨hp.mems, hok.small hp, hp.len, by dsimp only; omega⟩ rfl, all_holds fun x hx => ?_⟩
  replace hx : x = runS p (bits .and .i64 n 15).toNat a := hx
  have hro := run_ok hp (bits .and .i64 n 15).toNat hok
  rw [← hx] at hro
  clear hx
  generalize x.1 = s at hro ⊢
  refine ⟨PreOk.mk (hro.small hp) rfl, PreOk.mk ⟨hp.mems, hro.small hp, hp.len⟩ rfl, all_holds fun y hy => ?_⟩
  replace hy : y = stepS p s := hy
  have hyo := (step_ok hp hro).small hp
  rw [← hy] at hyo
  exact l_lOw0 p s _ y.1.r0 y.1.r1 y.1.r2 y.1.r3 y.1.pc y.1.mem.length y.1.stack.length (rowsOn y.1.stack) hp hro hyo.1 hyo.2 ⟨y.1.stack, rfl, rfl⟩ (rowsOn y.1.mem, 0) ⟨by dsimp only; omega, y.1.mem, rfl, rfl⟩
end Go.Proofs.Ytmhfhobaicklmaa.Ax
end

section
/-
  DERIVED: THE SHELF's CONTRACTS AT THIS DUMP, IN PLAIN WORDS (tools/lay-plain.mjs out of 'TryShelf.lean', which tools/lay-shelf.mjs wrote): THE SAME DECLARATIONS UNDER THE SAME NAMES: 'import', 'namespace', 'open', 'def', 'theorem' AND NOTHING ELSE: no command of the shelf's: FOR A HAND-IN. Each laying: the table of numbers ('.._ren') and one theorem, a field a fact of the dump's own or the kernel's comparison; each contract: ONE APPLICATION.
-/
namespace Go.Proofs
open Go.Shelf
def Try.lays217_ren : Go.Shelf.Ren := ⟨fun | 217 => 116 | 266 => 120 | n => n, fun | 9 => 9 | 5 => 5 | 3 => 3 | n => n, fun | n => n⟩
theorem Try.lays217 : Go.Proofs.Lays.n217 Try.prog Try.lays217_ren := {
  mixed := by kernel_rfl
  f217 := Try.func116.trans (congrArg some (by kernel_rfl))
  f266 := Try.func120.trans (congrArg some (by kernel_rfl))
  t3 := Try.underlying3
  a3 := Try.isAgg3
  z3 := Try.sizeOf3
  v3 := Try.zeroValue3
  t5 := Try.underlying5
  a5 := Try.isAgg5
  z5 := Try.sizeOf5
  v5 := Try.zeroValue5
  t9 := Try.underlying9
  a9 := Try.isAgg9
  z9 := Try.sizeOf9
  v9 := Try.zeroValue9 }
open Go.RowKit Go.Lib in
/-- internal/stringslite.IndexByte (what strings.IndexByte calls): IT RETURNS 'Lib.indexByte s c'; the world is as it was. (LAID: no walk: one application.) -/
theorem Try.stringslite_IndexByte (s : ByteArray) (c : Int) (w : World) :
    Calls Try.prog 116 #[.string s, .int .u8 c] w fun e w' => e = .returned (.int .i64 (Lib.indexByte s.data.toList c.toNat.toUInt8)) ∧ w' = w := Any.stringslite_IndexByte Try.lays217 s c w
def Try.lays224_ren : Go.Shelf.Ren := ⟨fun | 224 => 118 | n => n, fun | 3 => 3 | n => n, fun | n => n⟩
theorem Try.lays224 : Go.Proofs.Lays.n224 Try.prog Try.lays224_ren := {
  mixed := by kernel_rfl
  f224 := Try.func118.trans (congrArg some (by kernel_rfl))
  t3 := Try.underlying3
  a3 := Try.isAgg3
  z3 := Try.sizeOf3
  v3 := Try.zeroValue3 }
open Go.RowKit Go.Lib in
/-- internal/bytealg.Cutover: "Cutover reports the number of failures of IndexByte we should tolerate before switching over to Index. n is the number of bytes processed so far.": on amd64: (n + 16) / 8. (LAID: no walk: one application.) -/
theorem Try.bytealg_Cutover (n : Int) (h0 : 0 ≤ n) (h1 : n < 4611686018427387904) (w : World) :
    Calls Try.prog 118 #[.int .i64 n] w fun e w' => e = .returned (.int .i64 ((n + 16) / 8)) ∧ w' = w := Any.bytealg_Cutover Try.lays224 n h0 h1 w
def Try.lays314_ren : Go.Shelf.Ren := ⟨fun | 314 => 121 | n => n, fun | 9 => 9 | 51 => 163 | 3 => 3 | 4 => 4 | 5 => 5 | 46 => 70 | n => n, fun | n => n⟩
theorem Try.lays314 : Go.Proofs.Lays.n314 Try.prog Try.lays314_ren := {
  mixed := by kernel_rfl
  f314 := Try.func121.trans (congrArg some (by kernel_rfl))
  t3 := Try.underlying3
  a3 := Try.isAgg3
  z3 := Try.sizeOf3
  v3 := Try.zeroValue3
  t4 := Try.underlying4
  a4 := Try.isAgg4
  z4 := Try.sizeOf4
  v4 := Try.zeroValue4
  t5 := Try.underlying5
  a5 := Try.isAgg5
  z5 := Try.sizeOf5
  v5 := Try.zeroValue5
  t9 := Try.underlying9
  a9 := Try.isAgg9
  z9 := Try.sizeOf9
  v9 := Try.zeroValue9
  t46 := Try.underlying70
  a46 := Try.isAgg70
  z46 := Try.sizeOf70
  v46 := Try.zeroValue70
  t51 := Try.underlying163
  a51 := Try.isAgg163
  z51 := Try.sizeOf163
  v51 := Try.zeroValue163 }
open Go.RowKit Go.Lib in
/-- hashStr: "returns the hash and the appropriate multiplicative factor for use in Rabin-Karp algorithm": THE HASH OF ALL OF sep, AND 16777619 ^ len(sep), both in uint32. (LAID: no walk: one application.) -/
theorem Try.bytealg_hashStr (sep : ByteArray) (hs : sep.size < 4294967281) (w : World) :
    Calls Try.prog 121 #[.string sep] w fun e w' => e = .returned (.tuple #[.int .u32 (RK.H sep.data.toList % 4294967296), .int .u32 (16777619 ^ sep.size % 4294967296)]) ∧ w' = w := Any.bytealg_hashStr Try.lays314 sep hs w
def Try.lays267_ren : Go.Shelf.Ren := ⟨fun | 267 => 119 | 314 => 121 | n => n, fun | 9 => 9 | 3 => 3 | 146 => 164 | 51 => 163 | 4 => 4 | 5 => 5 | 46 => 70 | n => n, fun | n => n⟩
theorem Try.lays267 : Go.Proofs.Lays.n267 Try.prog Try.lays267_ren := {
  mixed := by kernel_rfl
  f267 := Try.func119.trans (congrArg some (by kernel_rfl))
  f314 := Try.func121.trans (congrArg some (by kernel_rfl))
  t3 := Try.underlying3
  a3 := Try.isAgg3
  z3 := Try.sizeOf3
  v3 := Try.zeroValue3
  t4 := Try.underlying4
  a4 := Try.isAgg4
  z4 := Try.sizeOf4
  v4 := Try.zeroValue4
  t5 := Try.underlying5
  a5 := Try.isAgg5
  z5 := Try.sizeOf5
  v5 := Try.zeroValue5
  t9 := Try.underlying9
  a9 := Try.isAgg9
  z9 := Try.sizeOf9
  v9 := Try.zeroValue9
  t46 := Try.underlying70
  a46 := Try.isAgg70
  z46 := Try.sizeOf70
  v46 := Try.zeroValue70
  t51 := Try.underlying163
  a51 := Try.isAgg163
  z51 := Try.sizeOf163
  v51 := Try.zeroValue163
  t146 := Try.underlying164
  a146 := Try.isAgg164
  z146 := Try.sizeOf164
  v146 := Try.zeroValue164 }
open Go.RowKit Go.Lib in
theorem Try.bytealg_IndexRabinKarp (s sep : ByteArray) (h1 : 1 ≤ sep.size) (h2 : sep.size ≤ s.size) (hs : s.size < 4294967281) (w : World) :
    Calls Try.prog 119 #[.string s, .string sep] w fun e w' => e = .returned (.int .i64 (Lib.index s.data.toList sep.data.toList)) ∧ w' = w := Any.bytealg_IndexRabinKarp Try.lays267 s sep h1 h2 hs w
def Try.lays219_ren : Go.Shelf.Ren := ⟨fun | 219 => 115 | 217 => 116 | 225 => 117 | 224 => 118 | 267 => 119 | 266 => 120 | 314 => 121 | n => n, fun | 9 => 9 | 3 => 3 | 4 => 4 | 5 => 5 | 46 => 70 | 146 => 164 | 51 => 163 | n => n, fun | 1 => 0 | n => n⟩
theorem Try.lays219 : Go.Proofs.Lays.n219 Try.prog Try.lays219_ren := {
  mixed := by kernel_rfl
  f217 := Try.func116.trans (congrArg some (by kernel_rfl))
  f219 := Try.func115.trans (congrArg some (by kernel_rfl))
  f224 := Try.func118.trans (congrArg some (by kernel_rfl))
  f225 := Try.func117.trans (congrArg some (by kernel_rfl))
  f266 := Try.func120.trans (congrArg some (by kernel_rfl))
  f267 := Try.func119.trans (congrArg some (by kernel_rfl))
  f314 := Try.func121.trans (congrArg some (by kernel_rfl))
  t3 := Try.underlying3
  a3 := Try.isAgg3
  z3 := Try.sizeOf3
  v3 := Try.zeroValue3
  t4 := Try.underlying4
  a4 := Try.isAgg4
  z4 := Try.sizeOf4
  v4 := Try.zeroValue4
  t5 := Try.underlying5
  a5 := Try.isAgg5
  z5 := Try.sizeOf5
  v5 := Try.zeroValue5
  t9 := Try.underlying9
  a9 := Try.isAgg9
  z9 := Try.sizeOf9
  v9 := Try.zeroValue9
  t46 := Try.underlying70
  a46 := Try.isAgg70
  z46 := Try.sizeOf70
  v46 := Try.zeroValue70
  t51 := Try.underlying163
  a51 := Try.isAgg163
  z51 := Try.sizeOf163
  v51 := Try.zeroValue163
  t146 := Try.underlying164
  a146 := Try.isAgg164
  z146 := Try.sizeOf164
  v146 := Try.zeroValue164
  g1 := by kernel_rfl }
open Go.RowKit Go.Lib in
/-- internal/stringslite.Index (what strings.Index calls) AT A substr OF ONE BYTE c: IT RETURNS 'Lib.indexByte s c'; the world is as it was. (LAID: no walk: one application.) -/
theorem Try.stringslite_Index_one (s : ByteArray) (c : UInt8) (w : World) :
    Calls Try.prog 115 #[.string s, .string ⟨#[c]⟩] w fun e w' => e = .returned (.int .i64 (Lib.indexByte s.data.toList c)) ∧ w' = w := Any.stringslite_Index_one Try.lays219 s c w
open Go.RowKit Go.Lib in
/-- internal/stringslite.Index (what strings.Index calls) AT A substr OF WHATEVER LENGTH: IT RETURNS 'Lib.index s substr'; the world is as it was. 'm': what internal/bytealg.MaxLen holds: whatever. (LAID: no walk: one application.) -/
theorem Try.stringslite_Index (s sub : ByteArray) (m : Int) (w : World) (hs : s.size < 4294967281) (hm : w.cell? ⟨0, 0, none⟩ = some (.int .i64 m)) :
    Calls Try.prog 115 #[.string s, .string sub] w fun e w' => e = .returned (.int .i64 (Lib.index s.data.toList sub.data.toList)) ∧ w' = w := Any.stringslite_Index Try.lays219 s sub m w hs hm
def Try.lays143_ren : Go.Shelf.Ren := ⟨fun | 143 => 111 | 219 => 115 | 217 => 116 | 225 => 117 | 224 => 118 | 267 => 119 | 266 => 120 | 314 => 121 | n => n, fun | 9 => 9 | 3 => 3 | 4 => 4 | 5 => 5 | 46 => 70 | 146 => 164 | 51 => 163 | n => n, fun | 1 => 0 | n => n⟩
theorem Try.lays143 : Go.Proofs.Lays.n143 Try.prog Try.lays143_ren := {
  mixed := by kernel_rfl
  f143 := Try.func111.trans (congrArg some (by kernel_rfl))
  f217 := Try.func116.trans (congrArg some (by kernel_rfl))
  f219 := Try.func115.trans (congrArg some (by kernel_rfl))
  f224 := Try.func118.trans (congrArg some (by kernel_rfl))
  f225 := Try.func117.trans (congrArg some (by kernel_rfl))
  f266 := Try.func120.trans (congrArg some (by kernel_rfl))
  f267 := Try.func119.trans (congrArg some (by kernel_rfl))
  f314 := Try.func121.trans (congrArg some (by kernel_rfl))
  t3 := Try.underlying3
  a3 := Try.isAgg3
  z3 := Try.sizeOf3
  v3 := Try.zeroValue3
  t4 := Try.underlying4
  a4 := Try.isAgg4
  z4 := Try.sizeOf4
  v4 := Try.zeroValue4
  t5 := Try.underlying5
  a5 := Try.isAgg5
  z5 := Try.sizeOf5
  v5 := Try.zeroValue5
  t9 := Try.underlying9
  a9 := Try.isAgg9
  z9 := Try.sizeOf9
  v9 := Try.zeroValue9
  t46 := Try.underlying70
  a46 := Try.isAgg70
  z46 := Try.sizeOf70
  v46 := Try.zeroValue70
  t51 := Try.underlying163
  a51 := Try.isAgg163
  z51 := Try.sizeOf163
  v51 := Try.zeroValue163
  t146 := Try.underlying164
  a146 := Try.isAgg164
  z146 := Try.sizeOf164
  v146 := Try.zeroValue164
  g1 := by kernel_rfl }
open Go.RowKit Go.Lib in
/-- strings.Index: "Index returns the index of the first instance of substr in s, or -1 if substr is not present in s.": AT A substr OF ONE BYTE c: IT RETURNS 'Lib.indexByte s c'; the world is as it was. (LAID: no walk: one application.) -/
theorem Try.strings_Index_one (s : ByteArray) (c : UInt8) (w : World) :
    Calls Try.prog 111 #[.string s, .string ⟨#[c]⟩] w fun e w' => e = .returned (.int .i64 (Lib.indexByte s.data.toList c)) ∧ w' = w := Any.strings_Index_one Try.lays143 s c w
open Go.RowKit Go.Lib in
/-- strings.Index: "Index returns the index of the first instance of substr in s, or -1 if substr is not present in s.": IT RETURNS 'Lib.index s substr'; the world is as it was. (LAID: no walk: one application.) -/
theorem Try.strings_Index (s sub : ByteArray) (m : Int) (w : World) (hs : s.size < 4294967281) (hm : w.cell? ⟨0, 0, none⟩ = some (.int .i64 m)) :
    Calls Try.prog 111 #[.string s, .string sub] w fun e w' => e = .returned (.int .i64 (Lib.index s.data.toList sub.data.toList)) ∧ w' = w := Any.strings_Index Try.lays143 s sub m w hs hm
def Try.lays144_ren : Go.Shelf.Ren := ⟨fun | 144 => 96 | 143 => 111 | 219 => 115 | 217 => 116 | 225 => 117 | 224 => 118 | 267 => 119 | 266 => 120 | 314 => 121 | n => n, fun | 9 => 9 | 4 => 4 | 3 => 3 | 5 => 5 | 46 => 70 | 146 => 164 | 51 => 163 | n => n, fun | 1 => 0 | n => n⟩
theorem Try.lays144 : Go.Proofs.Lays.n144 Try.prog Try.lays144_ren := {
  mixed := by kernel_rfl
  f143 := Try.func111.trans (congrArg some (by kernel_rfl))
  f144 := Try.func96.trans (congrArg some (by kernel_rfl))
  f217 := Try.func116.trans (congrArg some (by kernel_rfl))
  f219 := Try.func115.trans (congrArg some (by kernel_rfl))
  f224 := Try.func118.trans (congrArg some (by kernel_rfl))
  f225 := Try.func117.trans (congrArg some (by kernel_rfl))
  f266 := Try.func120.trans (congrArg some (by kernel_rfl))
  f267 := Try.func119.trans (congrArg some (by kernel_rfl))
  f314 := Try.func121.trans (congrArg some (by kernel_rfl))
  t3 := Try.underlying3
  a3 := Try.isAgg3
  z3 := Try.sizeOf3
  v3 := Try.zeroValue3
  t4 := Try.underlying4
  a4 := Try.isAgg4
  z4 := Try.sizeOf4
  v4 := Try.zeroValue4
  t5 := Try.underlying5
  a5 := Try.isAgg5
  z5 := Try.sizeOf5
  v5 := Try.zeroValue5
  t9 := Try.underlying9
  a9 := Try.isAgg9
  z9 := Try.sizeOf9
  v9 := Try.zeroValue9
  t46 := Try.underlying70
  a46 := Try.isAgg70
  z46 := Try.sizeOf70
  v46 := Try.zeroValue70
  t51 := Try.underlying163
  a51 := Try.isAgg163
  z51 := Try.sizeOf163
  v51 := Try.zeroValue163
  t146 := Try.underlying164
  a146 := Try.isAgg164
  z146 := Try.sizeOf164
  v146 := Try.zeroValue164
  g1 := by kernel_rfl }
open Go.RowKit Go.Lib in
/-- strings.Contains: "Contains reports whether substr is within s.": AT A substr OF ONE BYTE c: IT RETURNS 'decide (0 ≤ Lib.indexByte s c)'; the world is as it was. (LAID: no walk: one application.) -/
theorem Try.strings_Contains_one (s : ByteArray) (c : UInt8) (w : World) :
    Calls Try.prog 96 #[.string s, .string ⟨#[c]⟩] w fun e w' => e = .returned (.bool (decide (0 ≤ Lib.indexByte s.data.toList c))) ∧ w' = w := Any.strings_Contains_one Try.lays144 s c w
open Go.RowKit Go.Lib in
/-- strings.Contains: "Contains reports whether substr is within s.": IT RETURNS 'Lib.contains s substr'; the world is as it was. (LAID: no walk: one application.) -/
theorem Try.strings_Contains (s sub : ByteArray) (m : Int) (w : World) (hs : s.size < 4294967281) (hm : w.cell? ⟨0, 0, none⟩ = some (.int .i64 m)) :
    Calls Try.prog 96 #[.string s, .string sub] w fun e w' => e = .returned (.bool (Lib.contains s.data.toList sub.data.toList)) ∧ w' = w := Any.strings_Contains Try.lays144 s sub m w hs hm
def Try.laysM219_ren : Go.Shelf.Ren := ⟨fun | 219 => 115 | 217 => 116 | 225 => 117 | 224 => 118 | 267 => 119 | 266 => 120 | 314 => 121 | n => n, fun | 9 => 9 | 3 => 3 | 4 => 4 | 5 => 5 | 46 => 70 | 146 => 164 | 51 => 163 | n => n, fun | 1 => 0 | n => n⟩
theorem Try.laysM219 : Go.Proofs.LaysM.n219 Try.prog Try.laysM219_ren := {
  mixed := by kernel_rfl
  f217 := Try.func116.trans (congrArg some (by kernel_rfl))
  f219 := Try.func115.trans (congrArg some (by kernel_rfl))
  f224 := Try.func118.trans (congrArg some (by kernel_rfl))
  f225 := Try.func117.trans (congrArg some (by kernel_rfl))
  f266 := Try.func120.trans (congrArg some (by kernel_rfl))
  f267 := Try.func119.trans (congrArg some (by kernel_rfl))
  f314 := Try.func121.trans (congrArg some (by kernel_rfl))
  t3 := Try.underlying3
  a3 := Try.isAgg3
  z3 := Try.sizeOf3
  v3 := Try.zeroValue3
  t4 := Try.underlying4
  a4 := Try.isAgg4
  z4 := Try.sizeOf4
  v4 := Try.zeroValue4
  t5 := Try.underlying5
  a5 := Try.isAgg5
  z5 := Try.sizeOf5
  v5 := Try.zeroValue5
  t9 := Try.underlying9
  a9 := Try.isAgg9
  z9 := Try.sizeOf9
  v9 := Try.zeroValue9
  t46 := Try.underlying70
  a46 := Try.isAgg70
  z46 := Try.sizeOf70
  v46 := Try.zeroValue70
  t51 := Try.underlying163
  a51 := Try.isAgg163
  z51 := Try.sizeOf163
  v51 := Try.zeroValue163
  t146 := Try.underlying164
  a146 := Try.isAgg164
  z146 := Try.sizeOf164
  v146 := Try.zeroValue164
  g1 := by kernel_rfl
  i3 := by kernel_rfl
  i4 := by kernel_rfl
  i5 := by kernel_rfl
  i9 := by kernel_rfl
  i46 := by kernel_rfl
  i51 := by kernel_rfl
  i146 := by kernel_rfl
  m1 := by kernel_rfl
  s1_3 := fun w h => Go.Proofs.cell_of_shapedOpen_int (zero := #[.int .i64 0]) (t := 3) h (of_decide_eq_true (by kernel_rfl)) (by kernel_rfl) rfl (by kernel_rfl) (by kernel_rfl) Try.underlying3 }
open Go.RowKit Go.Lib in
theorem Try.stringslite_Index_shaped (s sub : ByteArray) (w : World) (h : w.ShapedOpen Try.prog) (hs : s.size < 4294967281) :
    Calls Try.prog 115 #[.string s, .string sub] w fun e w' => e = .returned (.int .i64 (Lib.index s.data.toList sub.data.toList)) ∧ w' = w := Any.stringslite_Index_shaped Try.laysM219 s sub w h hs
def Try.laysM143_ren : Go.Shelf.Ren := ⟨fun | 143 => 111 | 219 => 115 | 217 => 116 | 225 => 117 | 224 => 118 | 267 => 119 | 266 => 120 | 314 => 121 | n => n, fun | 9 => 9 | 3 => 3 | 4 => 4 | 5 => 5 | 46 => 70 | 146 => 164 | 51 => 163 | n => n, fun | 1 => 0 | n => n⟩
theorem Try.laysM143 : Go.Proofs.LaysM.n143 Try.prog Try.laysM143_ren := {
  mixed := by kernel_rfl
  f143 := Try.func111.trans (congrArg some (by kernel_rfl))
  f217 := Try.func116.trans (congrArg some (by kernel_rfl))
  f219 := Try.func115.trans (congrArg some (by kernel_rfl))
  f224 := Try.func118.trans (congrArg some (by kernel_rfl))
  f225 := Try.func117.trans (congrArg some (by kernel_rfl))
  f266 := Try.func120.trans (congrArg some (by kernel_rfl))
  f267 := Try.func119.trans (congrArg some (by kernel_rfl))
  f314 := Try.func121.trans (congrArg some (by kernel_rfl))
  t3 := Try.underlying3
  a3 := Try.isAgg3
  z3 := Try.sizeOf3
  v3 := Try.zeroValue3
  t4 := Try.underlying4
  a4 := Try.isAgg4
  z4 := Try.sizeOf4
  v4 := Try.zeroValue4
  t5 := Try.underlying5
  a5 := Try.isAgg5
  z5 := Try.sizeOf5
  v5 := Try.zeroValue5
  t9 := Try.underlying9
  a9 := Try.isAgg9
  z9 := Try.sizeOf9
  v9 := Try.zeroValue9
  t46 := Try.underlying70
  a46 := Try.isAgg70
  z46 := Try.sizeOf70
  v46 := Try.zeroValue70
  t51 := Try.underlying163
  a51 := Try.isAgg163
  z51 := Try.sizeOf163
  v51 := Try.zeroValue163
  t146 := Try.underlying164
  a146 := Try.isAgg164
  z146 := Try.sizeOf164
  v146 := Try.zeroValue164
  g1 := by kernel_rfl
  i3 := by kernel_rfl
  i4 := by kernel_rfl
  i5 := by kernel_rfl
  i9 := by kernel_rfl
  i46 := by kernel_rfl
  i51 := by kernel_rfl
  i146 := by kernel_rfl
  m1 := by kernel_rfl
  s1_3 := fun w h => Go.Proofs.cell_of_shapedOpen_int (zero := #[.int .i64 0]) (t := 3) h (of_decide_eq_true (by kernel_rfl)) (by kernel_rfl) rfl (by kernel_rfl) (by kernel_rfl) Try.underlying3 }
open Go.RowKit Go.Lib in
theorem Try.strings_Index_shaped (s sub : ByteArray) (w : World) (h : w.ShapedOpen Try.prog) (hs : s.size < 4294967281) :
    Calls Try.prog 111 #[.string s, .string sub] w fun e w' => e = .returned (.int .i64 (Lib.index s.data.toList sub.data.toList)) ∧ w' = w := Any.strings_Index_shaped Try.laysM143 s sub w h hs
def Try.laysM144_ren : Go.Shelf.Ren := ⟨fun | 144 => 96 | 143 => 111 | 219 => 115 | 217 => 116 | 225 => 117 | 224 => 118 | 267 => 119 | 266 => 120 | 314 => 121 | n => n, fun | 9 => 9 | 4 => 4 | 3 => 3 | 5 => 5 | 46 => 70 | 146 => 164 | 51 => 163 | n => n, fun | 1 => 0 | n => n⟩
theorem Try.laysM144 : Go.Proofs.LaysM.n144 Try.prog Try.laysM144_ren := {
  mixed := by kernel_rfl
  f143 := Try.func111.trans (congrArg some (by kernel_rfl))
  f144 := Try.func96.trans (congrArg some (by kernel_rfl))
  f217 := Try.func116.trans (congrArg some (by kernel_rfl))
  f219 := Try.func115.trans (congrArg some (by kernel_rfl))
  f224 := Try.func118.trans (congrArg some (by kernel_rfl))
  f225 := Try.func117.trans (congrArg some (by kernel_rfl))
  f266 := Try.func120.trans (congrArg some (by kernel_rfl))
  f267 := Try.func119.trans (congrArg some (by kernel_rfl))
  f314 := Try.func121.trans (congrArg some (by kernel_rfl))
  t3 := Try.underlying3
  a3 := Try.isAgg3
  z3 := Try.sizeOf3
  v3 := Try.zeroValue3
  t4 := Try.underlying4
  a4 := Try.isAgg4
  z4 := Try.sizeOf4
  v4 := Try.zeroValue4
  t5 := Try.underlying5
  a5 := Try.isAgg5
  z5 := Try.sizeOf5
  v5 := Try.zeroValue5
  t9 := Try.underlying9
  a9 := Try.isAgg9
  z9 := Try.sizeOf9
  v9 := Try.zeroValue9
  t46 := Try.underlying70
  a46 := Try.isAgg70
  z46 := Try.sizeOf70
  v46 := Try.zeroValue70
  t51 := Try.underlying163
  a51 := Try.isAgg163
  z51 := Try.sizeOf163
  v51 := Try.zeroValue163
  t146 := Try.underlying164
  a146 := Try.isAgg164
  z146 := Try.sizeOf164
  v146 := Try.zeroValue164
  g1 := by kernel_rfl
  i3 := by kernel_rfl
  i4 := by kernel_rfl
  i5 := by kernel_rfl
  i9 := by kernel_rfl
  i46 := by kernel_rfl
  i51 := by kernel_rfl
  i146 := by kernel_rfl
  m1 := by kernel_rfl
  s1_3 := fun w h => Go.Proofs.cell_of_shapedOpen_int (zero := #[.int .i64 0]) (t := 3) h (of_decide_eq_true (by kernel_rfl)) (by kernel_rfl) rfl (by kernel_rfl) (by kernel_rfl) Try.underlying3 }
open Go.RowKit Go.Lib in
theorem Try.strings_Contains_shaped (s sub : ByteArray) (w : World) (h : w.ShapedOpen Try.prog) (hs : s.size < 4294967281) :
    Calls Try.prog 96 #[.string s, .string sub] w fun e w' => e = .returned (.bool (Lib.contains s.data.toList sub.data.toList)) ∧ w' = w := Any.strings_Contains_shaped Try.laysM144 s sub w h hs
end Go.Proofs
end
