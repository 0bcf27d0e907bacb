/- Several texts in one, in their order. -/
import Derived.Test.YtclabjihjopclaaPart3
section
/- The statement PairPublic. -/
namespace Go.Proofs.Ytclabjihjopclaa.Ax
open Go.RowKit
set_option linter.unusedVariables false
set_option linter.unusedSimpArgs false
def rdLIx : List A → List Int × Int
  | [.c (.sl l), .c (.int _ i)] => (listOf Int l, i)
  | _ => default
noncomputable def v_hold : Prg × Sta × Bool → List Int := fun x => holdV x.1 x.2.1 x.2.2
noncomputable def sh_hold : List Int → RR := fun y => rint y
theorem e_hold (x : Prg × Sta × Bool) : sh_hold (v_hold x) = c_hold.ans x := rfl
def c_lPub : FT (List Int × Int) := ⟨12, fun x => [al x.1, ai x.2], rdLIx, fun _ => True, fun x => rb true, false, fun x => by simp [al, ai, rdLIx]⟩
noncomputable def a_lPub : FnA := (fnA Try.prog Try.f12 2 [(11, [5, 8, 9, 11, 12, 13, 73, 74, 75]), (17, [5, 8, 9, 11, 12, 16])]).getD ⟨0, .skip, [], []⟩
noncomputable def s_lPub : Sp := spT [c_make.gfe v_make sh_make e_make, c_count.gfe v_count sh_count e_count, c_pAt.gfe v_pAt sh_pAt e_pAt, c_rCells.fe, c_hold.gfe v_hold sh_hold e_hold, c_less.fe, c_awake19.fe]
theorem s_lPub_sound : s_lPub.sound Try.prog := spT_sound fun e he => by
  simp only [List.mem_cons, List.not_mem_nil, or_false] at he
  rcases he with rfl | rfl | rfl | rfl | rfl | rfl | rfl
  · exact FT.gfe_good c_make_good
  · exact FT.gfe_good c_count_good
  · exact FT.gfe_good c_pAt_good
  · exact c_rCells_good
  · exact FT.gfe_good c_hold_good
  · exact c_less_good
  · exact c_awake19_good
def sbx (s : Sta) (t u : Nat) : Blk := bc [.d (.int .i64 s.r0), .d (.int .i64 s.r1), .d (.int .i64 s.r2), .d (.int .i64 s.r3), .own t 1 (rowsOn s.mem).length, .own u 1 (rowsOn s.stack).length, .d (.int .i64 s.pc)]
def F_pp0 (p : Prg) (a b : Sta) (x y g v : List Int) (i : Int) : St := ⟨mkS 140 [(5, vp 320), (8, vp 512), (9, vp 576), (11, vo 4096 (rowsOn x).length), (12, vo 4288 (rowsOn y).length), (13, vo 4480 (rowsOn g).length), (73, vo 4672 (rowsOn v).length), (74, vi ((rowsOn v).length : Int)), (75, vi i)], [(320, bx p.cells), (512, sbx a 2372 2373), (576, sbx b 2379 2380), (2372, ba 1 (rowsOn a.mem)), (2373, ba 1 (rowsOn a.stack)), (2379, ba 1 (rowsOn b.mem)), (2380, ba 1 (rowsOn b.stack)), (4096, ba 1 (rowsOn x)), (4288, ba 1 (rowsOn y)), (4480, ba 1 (rowsOn g)), (4672, ba 1 (rowsOn v))]⟩
def F_pp1 (p : Prg) (a b : Sta) (x y : List Int) (i : Int) : St := ⟨mkS 140 [(5, vp 320), (8, vp 512), (9, vp 576), (11, vo 4096 (rowsOn x).length), (12, vo 4288 (rowsOn y).length), (16, vi i)], [(320, bx p.cells), (512, sbx a 2372 2373), (576, sbx b 2379 2380), (2372, ba 1 (rowsOn a.mem)), (2373, ba 1 (rowsOn a.stack)), (2379, ba 1 (rowsOn b.mem)), (2380, ba 1 (rowsOn b.stack)), (4096, ba 1 (rowsOn x)), (4288, ba 1 (rowsOn y))]⟩
set_option maxRecDepth 100000 in
theorem t_lPub (m : List Int) (i : Int) : a_lPub.start s_lPub 400 [al m, ai i] =
(VC.need (PreOk c_make (m, ()) [A.c (D.sl (rowsOn m))])
(VC.all (v_make (listOf Int (rowsOn m), ())) fun (y2 : Prg) =>
(VC.need (PreOk c_count (Prg.of (Prg.cells y2), (100000 : Int)) [A.agg (Prg.cells y2), A.c (D.int IntKind.i64 (100000 : Int))])
(VC.all (v_count (Prg.of (Prg.cells y2), (100000 : Int))) fun (y3 : Int × Bool) =>
(VC.br (!y3.snd)
 (VC.need (PreOk c_awake19 PUnit.unit [])
 (VC.ret (some (RR.c (Rc.d (D.bool true))))))
 (VC.br (y3.fst == (0 : Int))
  (VC.need (PreOk c_awake19 PUnit.unit [])
  (VC.ret (some (RR.c (Rc.d (D.bool true))))))
  (VC.need (y3.fst ≠ (0 : Int))
  (VC.need (PreOk c_pAt (Prg.of (Prg.cells y2), Int.tmod (bits BinOp.and IntKind.i64 i (16777215 : Int)) y3.fst) [A.agg (Prg.cells y2), A.c (D.int IntKind.i64 (Int.tmod (bits BinOp.and IntKind.i64 i (16777215 : Int)) y3.fst))])
  (VC.all (v_pAt (Prg.of (Prg.cells y2), Int.tmod (bits BinOp.and IntKind.i64 i (16777215 : Int)) y3.fst)) fun (y4 : Sta × Sta × Bool) =>
  (VC.br (!y4.snd.snd)
   (VC.ret (some (RR.c (Rc.d (D.bool false)))))
   (VC.br (y4.fst.pc != (0 : Int))
    (VC.ret (some (RR.c (Rc.d (D.bool false)))))
    (VC.br ((↑(List.length (rowsOn y4.fst.stack)) : Int) != (0 : Int))
     (VC.ret (some (RR.c (Rc.d (D.bool false)))))
     (VC.need (PreOk c_rCells y2 [A.agg (Prg.cells y2)])
     (VC.br ((↑(List.length (rowsOn y4.fst.mem)) : Int) != cellsS (listOf PMem (rowsOn y2.mems)))
      (VC.ret (some (RR.c (Rc.d (D.bool false)))))
      (VC.need (PreOk c_hold (Prg.of (Prg.cells y2), Sta.of (Sta.cells y4.fst), true) [A.agg (Prg.cells y2), A.agg (Sta.cells y4.fst), A.c (D.bool true)])
      (VC.all (v_hold (Prg.of (Prg.cells y2), Sta.of (Sta.cells y4.fst), true)) fun (y5 : List Int) =>
      (VC.need (PreOk c_hold (Prg.of (Prg.cells y2), Sta.of (Sta.cells y4.snd.fst), true) [A.agg (Prg.cells y2), A.agg (Sta.cells y4.snd.fst), A.c (D.bool true)])
      (VC.all (v_hold (Prg.of (Prg.cells y2), Sta.of (Sta.cells y4.snd.fst), true)) fun (y6 : List Int) =>
      (VC.need (PreOk c_hold (Prg.of (Prg.cells y2), Sta.of (Sta.cells y4.fst), false) [A.agg (Prg.cells y2), A.agg (Sta.cells y4.fst), A.c (D.bool false)])
      (VC.all (v_hold (Prg.of (Prg.cells y2), Sta.of (Sta.cells y4.fst), false)) fun (y7 : List Int) =>
      (VC.need (PreOk c_hold (Prg.of (Prg.cells y2), Sta.of (Sta.cells y4.snd.fst), false) [A.agg (Prg.cells y2), A.agg (Sta.cells y4.snd.fst), A.c (D.bool false)])
      (VC.all (v_hold (Prg.of (Prg.cells y2), Sta.of (Sta.cells y4.snd.fst), false)) fun (y8 : List Int) =>
      (FnA.at_ a_lPub 0 (F_pp0 y2 y4.fst y4.snd.fst y5 y6 y7 y8 (0 : Int))))))))))))))))))))))))) := by kernel_rfl
set_option maxRecDepth 100000 in
theorem t_pp0 (p : Prg) (a b : Sta) (x y g v : List Int) (i : Int) : a_lPub.round s_lPub 400 0 (F_pp0 p a b x y g v i) =
(VC.br (decide (i < (↑(List.length (rowsOn v)) : Int)))
 (VC.need ((0 : Int) ≤ i ∧ i < (↑(List.length (rowsOn v)) : Int))
 (VC.need (Int.toNat i < List.length (rowsOn v) ∧ List.length (rowAt (rowsOn v) (Int.toNat i)) = (1 : Nat) ∧ okSh [Kd.int IntKind.i64] (List.drop (0 : Nat) (rowAt (rowsOn v) (Int.toNat i))))
 (VC.br (decide ((↑(List.length (rowsOn g)) : Int) ≤ i))
  (VC.ret (some (RR.c (Rc.d (D.bool false)))))
  (VC.need ((0 : Int) ≤ i ∧ i < (↑(List.length (rowsOn g)) : Int))
  (VC.need (Int.toNat i < List.length (rowsOn g) ∧ List.length (rowAt (rowsOn g) (Int.toNat i)) = (1 : Nat) ∧ okSh [Kd.int IntKind.i64] (List.drop (0 : Nat) (rowAt (rowsOn g) (Int.toNat i))))
  (VC.br (asInt (List.getD (List.drop (0 : Nat) (rowAt (rowsOn g) (Int.toNat i))) (0 : Nat) D.nilp) != asInt (List.getD (List.drop (0 : Nat) (rowAt (rowsOn v) (Int.toNat i))) (0 : Nat) D.nilp))
   (VC.ret (some (RR.c (Rc.d (D.bool false)))))
   (VC.br (decide (asInt (List.getD (List.drop (0 : Nat) (rowAt (rowsOn v) (Int.toNat i))) (0 : Nat) D.nilp) < (0 : Int)))
    (VC.ret (some (RR.c (Rc.d (D.bool false)))))
    (VC.need ((0 : Int) ≤ IntKind.wrap IntKind.u64 p.w)
    (VC.br (decide (IntKind.wrap IntKind.i64 ((1 : Int) * (2 : Int) ^ min (Int.toNat (IntKind.wrap IntKind.u64 p.w)) (64 : Nat)) ≤ asInt (List.getD (List.drop (0 : Nat) (rowAt (rowsOn v) (Int.toNat i))) (0 : Nat) D.nilp)))
     (VC.ret (some (RR.c (Rc.d (D.bool false)))))
     (FnA.at_ a_lPub 0 (F_pp0 p a b x y g v (IntKind.wrap IntKind.i64 (i + (1 : Int))))))))))))))
 (FnA.at_ a_lPub 1 (F_pp1 p a b x y (0 : Int)))) := by kernel_rfl
set_option maxRecDepth 100000 in
theorem t_pp1_0 (p : Prg) (a b : Sta) (x y : List Int) : a_lPub.round s_lPub 400 1 (F_pp1 p a b x y 0) =
(VC.br (p.r0 == (0 : Int))
 (VC.br (a.r0 != (0 : Int))
  (VC.ret (some (RR.c (Rc.d (D.bool false)))))
  (VC.br (b.r0 != (0 : Int))
   (VC.ret (some (RR.c (Rc.d (D.bool false)))))
   (FnA.at_ a_lPub 1 (F_pp1 p a b x y (1 : Int)))))
 (FnA.at_ a_lPub 1 (F_pp1 p a b x y (1 : Int)))) := by kernel_rfl
set_option maxRecDepth 100000 in
theorem t_pp1_1 (p : Prg) (a b : Sta) (x y : List Int) : a_lPub.round s_lPub 400 1 (F_pp1 p a b x y 1) =
(VC.br (p.r1 == (0 : Int))
 (VC.br (a.r1 != (0 : Int))
  (VC.ret (some (RR.c (Rc.d (D.bool false)))))
  (VC.br (b.r1 != (0 : Int))
   (VC.ret (some (RR.c (Rc.d (D.bool false)))))
   (FnA.at_ a_lPub 1 (F_pp1 p a b x y (2 : Int)))))
 (FnA.at_ a_lPub 1 (F_pp1 p a b x y (2 : Int)))) := by kernel_rfl
set_option maxRecDepth 100000 in
theorem t_pp1_2 (p : Prg) (a b : Sta) (x y : List Int) : a_lPub.round s_lPub 400 1 (F_pp1 p a b x y 2) =
(VC.br (p.r2 == (0 : Int))
 (VC.br (a.r2 != (0 : Int))
  (VC.ret (some (RR.c (Rc.d (D.bool false)))))
  (VC.br (b.r2 != (0 : Int))
   (VC.ret (some (RR.c (Rc.d (D.bool false)))))
   (FnA.at_ a_lPub 1 (F_pp1 p a b x y (3 : Int)))))
 (FnA.at_ a_lPub 1 (F_pp1 p a b x y (3 : Int)))) := by kernel_rfl
set_option maxRecDepth 100000 in
theorem t_pp1_3 (p : Prg) (a b : Sta) (x y : List Int) : a_lPub.round s_lPub 400 1 (F_pp1 p a b x y 3) =
(VC.br (p.r3 == (0 : Int))
 (VC.br (a.r3 != (0 : Int))
  (VC.ret (some (RR.c (Rc.d (D.bool false)))))
  (VC.br (b.r3 != (0 : Int))
   (VC.ret (some (RR.c (Rc.d (D.bool false)))))
   (FnA.at_ a_lPub 1 (F_pp1 p a b x y (4 : Int)))))
 (FnA.at_ a_lPub 1 (F_pp1 p a b x y (4 : Int)))) := by kernel_rfl
set_option maxRecDepth 100000 in
theorem t_pp1_4 (p : Prg) (a b : Sta) (x y : List Int) : a_lPub.round s_lPub 400 1 (F_pp1 p a b x y 4) =
(VC.need (PreOk c_less (x, y) [A.c (D.sl (rowsOn x)), A.c (D.sl (rowsOn y))])
(VC.br (lessL (listOf Int (rowsOn x)) (listOf Int (rowsOn y)))
 (VC.need (PreOk c_less (y, x) [A.c (D.sl (rowsOn y)), A.c (D.sl (rowsOn x))])
 (VC.br (!lessL (listOf Int (rowsOn y)) (listOf Int (rowsOn x)))
  (VC.need (PreOk c_awake19 PUnit.unit [])
  (VC.ret (some (RR.c (Rc.d (D.bool true))))))
  (VC.ret (some (RR.c (Rc.d (D.bool false)))))))
 (VC.ret (some (RR.c (Rc.d (D.bool false))))))) := by kernel_rfl
theorem l_pp1_4 (p : Prg) (a b : Sta) (x y : List Int) (ha : ∀ r, 0 ≤ r ∧ r < 4 → p.reg r = 0 → a.reg r = 0) (hb : ∀ r, 0 ≤ r ∧ r < 4 → p.reg r = 0 → b.reg r = 0) (hx : x.length ≤ 1000000) (hy : y.length ≤ 1000000) (h1 : lessL x y = true) (h2 : lessL y x = false) : (a_lPub.at_ 1 (F_pp1 p a b x y 4)).holds s_lPub.cx a_lPub.rs (fun r => r.le (rb true)) := by
  refine at_of_round s_lPub_sound (m := 400) ?_
  rw [t_pp1_4]
  try simp only [asRows_sl, asInt_int, asBool_bool, asStr_str, listOf_rowsOn, List.drop_zero, Prg.eta, Sta.eta, rowsOn_length, getD_drop, Nat.reduceAdd, rd_int, rd_PMem_name, rd_PMem_secret, rd_PMem_n, rd_PLabel_name, rd_PLabel_at_, rd_Ins_kind, rd_Ins_op, rd_Ins_d, rd_Ins_aR, rd_Ins_aN, rd_Ins_bR, rd_Ins_bN, rd_Ins_name, rd_Ins_target, rd_Ent_pc, rd_Ent_val, rd_Ent_addr, rd_Ent_fro, rd_Ent_next, rd_Ent_done, rd_Ent_known, rd_Ent_fault, rd_Place_reg, rd_Place_n, rd_Place_secret, rd_Obs_kind, rd_Obs_at_, rd_Dir_kind, rd_Dir_n, Prg.of_cells, Sta.of_cells]
  have e1 : c_less.ans (x, y) = rb true := congrArg rb h1
  refine ⟨PreOk.mk ⟨by dsimp only; omega, by dsimp only; omega⟩ rfl, br_t h1 ⟨PreOk.mk ⟨by dsimp only; omega, by dsimp only; omega⟩ rfl, br_t (by rw [h2]; rfl) ⟨PreOk.mk trivial rfl, ret_le (RR.le_refl _)⟩⟩⟩
theorem l_pp1_3 (p : Prg) (a b : Sta) (x y : List Int) (ha : ∀ r, 0 ≤ r ∧ r < 4 → p.reg r = 0 → a.reg r = 0) (hb : ∀ r, 0 ≤ r ∧ r < 4 → p.reg r = 0 → b.reg r = 0) (hx : x.length ≤ 1000000) (hy : y.length ≤ 1000000) (h1 : lessL x y = true) (h2 : lessL y x = false) : (a_lPub.at_ 1 (F_pp1 p a b x y 3)).holds s_lPub.cx a_lPub.rs (fun r => r.le (rb true)) := by
  refine at_of_round s_lPub_sound (m := 400) ?_
  rw [t_pp1_3]
  try simp only [asRows_sl, asInt_int, asBool_bool, asStr_str, listOf_rowsOn, List.drop_zero, Prg.eta, Sta.eta, rowsOn_length, getD_drop, Nat.reduceAdd, rd_int, rd_PMem_name, rd_PMem_secret, rd_PMem_n, rd_PLabel_name, rd_PLabel_at_, rd_Ins_kind, rd_Ins_op, rd_Ins_d, rd_Ins_aR, rd_Ins_aN, rd_Ins_bR, rd_Ins_bN, rd_Ins_name, rd_Ins_target, rd_Ent_pc, rd_Ent_val, rd_Ent_addr, rd_Ent_fro, rd_Ent_next, rd_Ent_done, rd_Ent_known, rd_Ent_fault, rd_Place_reg, rd_Place_n, rd_Place_secret, rd_Obs_kind, rd_Obs_at_, rd_Dir_kind, rd_Dir_n, Prg.of_cells, Sta.of_cells]
  refine br_beq (fun h => ?_) (fun h => l_pp1_4 p a b x y ha hb hx hy h1 h2)
  have e1 : a.r3 = 0 := ha 3 (by omega) h
  have e2 : b.r3 = 0 := hb 3 (by omega) h
  exact br_bne (fun q => absurd e1 q) (fun _ => br_bne (fun q => absurd e2 q) (fun _ => l_pp1_4 p a b x y ha hb hx hy h1 h2))
theorem l_pp1_2 (p : Prg) (a b : Sta) (x y : List Int) (ha : ∀ r, 0 ≤ r ∧ r < 4 → p.reg r = 0 → a.reg r = 0) (hb : ∀ r, 0 ≤ r ∧ r < 4 → p.reg r = 0 → b.reg r = 0) (hx : x.length ≤ 1000000) (hy : y.length ≤ 1000000) (h1 : lessL x y = true) (h2 : lessL y x = false) : (a_lPub.at_ 1 (F_pp1 p a b x y 2)).holds s_lPub.cx a_lPub.rs (fun r => r.le (rb true)) := by
  refine at_of_round s_lPub_sound (m := 400) ?_
  rw [t_pp1_2]
  try simp only [asRows_sl, asInt_int, asBool_bool, asStr_str, listOf_rowsOn, List.drop_zero, Prg.eta, Sta.eta, rowsOn_length, getD_drop, Nat.reduceAdd, rd_int, rd_PMem_name, rd_PMem_secret, rd_PMem_n, rd_PLabel_name, rd_PLabel_at_, rd_Ins_kind, rd_Ins_op, rd_Ins_d, rd_Ins_aR, rd_Ins_aN, rd_Ins_bR, rd_Ins_bN, rd_Ins_name, rd_Ins_target, rd_Ent_pc, rd_Ent_val, rd_Ent_addr, rd_Ent_fro, rd_Ent_next, rd_Ent_done, rd_Ent_known, rd_Ent_fault, rd_Place_reg, rd_Place_n, rd_Place_secret, rd_Obs_kind, rd_Obs_at_, rd_Dir_kind, rd_Dir_n, Prg.of_cells, Sta.of_cells]
  refine br_beq (fun h => ?_) (fun h => l_pp1_3 p a b x y ha hb hx hy h1 h2)
  have e1 : a.r2 = 0 := ha 2 (by omega) h
  have e2 : b.r2 = 0 := hb 2 (by omega) h
  exact br_bne (fun q => absurd e1 q) (fun _ => br_bne (fun q => absurd e2 q) (fun _ => l_pp1_3 p a b x y ha hb hx hy h1 h2))
theorem l_pp1_1 (p : Prg) (a b : Sta) (x y : List Int) (ha : ∀ r, 0 ≤ r ∧ r < 4 → p.reg r = 0 → a.reg r = 0) (hb : ∀ r, 0 ≤ r ∧ r < 4 → p.reg r = 0 → b.reg r = 0) (hx : x.length ≤ 1000000) (hy : y.length ≤ 1000000) (h1 : lessL x y = true) (h2 : lessL y x = false) : (a_lPub.at_ 1 (F_pp1 p a b x y 1)).holds s_lPub.cx a_lPub.rs (fun r => r.le (rb true)) := by
  refine at_of_round s_lPub_sound (m := 400) ?_
  rw [t_pp1_1]
  try simp only [asRows_sl, asInt_int, asBool_bool, asStr_str, listOf_rowsOn, List.drop_zero, Prg.eta, Sta.eta, rowsOn_length, getD_drop, Nat.reduceAdd, rd_int, rd_PMem_name, rd_PMem_secret, rd_PMem_n, rd_PLabel_name, rd_PLabel_at_, rd_Ins_kind, rd_Ins_op, rd_Ins_d, rd_Ins_aR, rd_Ins_aN, rd_Ins_bR, rd_Ins_bN, rd_Ins_name, rd_Ins_target, rd_Ent_pc, rd_Ent_val, rd_Ent_addr, rd_Ent_fro, rd_Ent_next, rd_Ent_done, rd_Ent_known, rd_Ent_fault, rd_Place_reg, rd_Place_n, rd_Place_secret, rd_Obs_kind, rd_Obs_at_, rd_Dir_kind, rd_Dir_n, Prg.of_cells, Sta.of_cells]
  refine br_beq (fun h => ?_) (fun h => l_pp1_2 p a b x y ha hb hx hy h1 h2)
  have e1 : a.r1 = 0 := ha 1 (by omega) h
  have e2 : b.r1 = 0 := hb 1 (by omega) h
  exact br_bne (fun q => absurd e1 q) (fun _ => br_bne (fun q => absurd e2 q) (fun _ => l_pp1_2 p a b x y ha hb hx hy h1 h2))
theorem l_pp1_0 (p : Prg) (a b : Sta) (x y : List Int) (ha : ∀ r, 0 ≤ r ∧ r < 4 → p.reg r = 0 → a.reg r = 0) (hb : ∀ r, 0 ≤ r ∧ r < 4 → p.reg r = 0 → b.reg r = 0) (hx : x.length ≤ 1000000) (hy : y.length ≤ 1000000) (h1 : lessL x y = true) (h2 : lessL y x = false) : (a_lPub.at_ 1 (F_pp1 p a b x y 0)).holds s_lPub.cx a_lPub.rs (fun r => r.le (rb true)) := by
  refine at_of_round s_lPub_sound (m := 400) ?_
  rw [t_pp1_0]
  try simp only [asRows_sl, asInt_int, asBool_bool, asStr_str, listOf_rowsOn, List.drop_zero, Prg.eta, Sta.eta, rowsOn_length, getD_drop, Nat.reduceAdd, rd_int, rd_PMem_name, rd_PMem_secret, rd_PMem_n, rd_PLabel_name, rd_PLabel_at_, rd_Ins_kind, rd_Ins_op, rd_Ins_d, rd_Ins_aR, rd_Ins_aN, rd_Ins_bR, rd_Ins_bN, rd_Ins_name, rd_Ins_target, rd_Ent_pc, rd_Ent_val, rd_Ent_addr, rd_Ent_fro, rd_Ent_next, rd_Ent_done, rd_Ent_known, rd_Ent_fault, rd_Place_reg, rd_Place_n, rd_Place_secret, rd_Obs_kind, rd_Obs_at_, rd_Dir_kind, rd_Dir_n, Prg.of_cells, Sta.of_cells]
  refine br_beq (fun h => ?_) (fun h => l_pp1_1 p a b x y ha hb hx hy h1 h2)
  have e1 : a.r0 = 0 := ha 0 (by omega) h
  have e2 : b.r0 = 0 := hb 0 (by omega) h
  exact br_bne (fun q => absurd e1 q) (fun _ => br_bne (fun q => absurd e2 q) (fun _ => l_pp1_1 p a b x y ha hb hx hy h1 h2))
theorem l_pp0 (p : Prg) (a b : Sta) (x y g : List Int) (hw : okW p.w) (hg : ∀ n ∈ g, 0 ≤ n ∧ n < sizeS p.w) (hl : g.length ≤ 1000000) (fin : (a_lPub.at_ 1 (F_pp1 p a b x y 0)).holds s_lPub.cx a_lPub.rs fun r => r.le (rb true)) : ∀ i : Int, (fun (i : Int) => 0 ≤ i ∧ i ≤ g.length) i → (a_lPub.at_ 0 ((fun (i : Int) => F_pp0 p a b x y g g i) i)).holds s_lPub.cx a_lPub.rs (fun r => r.le (rb true)) := by
  refine loop_rule (a := a_lPub) (j := 0) (m := 400) s_lPub_sound (fun (i : Int) => F_pp0 p a b x y g g i) (fun (i : Int) => 0 ≤ i ∧ i ≤ g.length) (fun (i : Int) => ((g.length : Int) - i).toNat) ?_
  rintro i h_inv ih
  try dsimp only at h_inv
  show VC.holds _ _ _ (a_lPub.round s_lPub 400 0 (F_pp0 p a b x y g g i))
  rw [t_pp0]
  try simp only [asRows_sl, asInt_int, asBool_bool, asStr_str, listOf_rowsOn, List.drop_zero, Prg.eta, Sta.eta, rowsOn_length, getD_drop, Nat.reduceAdd, rd_int, rd_PMem_name, rd_PMem_secret, rd_PMem_n, rd_PLabel_name, rd_PLabel_at_, rd_Ins_kind, rd_Ins_op, rd_Ins_d, rd_Ins_aR, rd_Ins_aN, rd_Ins_bR, rd_Ins_bN, rd_Ins_name, rd_Ins_target, rd_Ent_pc, rd_Ent_val, rd_Ent_addr, rd_Ent_fro, rd_Ent_next, rd_Ent_done, rd_Ent_known, rd_Ent_fault, rd_Place_reg, rd_Place_n, rd_Place_secret, rd_Obs_kind, rd_Obs_at_, rd_Dir_kind, rd_Dir_n, Prg.of_cells, Sta.of_cells]
  obtain ⟨h0, h1⟩ := h_inv
  have w1 : IntKind.wrap .i64 (i + 1) = i + 1 := wrap_small _ (by omega) (by omega)
  simp only [w1]
  refine br_dec (fun hd => ?_) (fun hd => fin)
  have hv := hg (rd g i) (by rw [rd_getN g i h0 hd]; exact List.getElem_mem _)
  have g1 : i.toNat < g.length ∧ (rowAt (rowsOn g) i.toNat).length = 1 ∧ okSh [Kd.int .i64] (rowAt (rowsOn g) i.toNat) := ⟨by omega, by rw [rowAt_on g i h0 hd]; rfl, okSh_ok _ g i (fun _ => rfl) h0 hd⟩
  have hw2 : 1 ≤ p.w ∧ p.w ≤ 16 := hw
  have e1 : IntKind.wrap .u64 p.w = p.w := by rw [IntKind.wrap_u64]; omega
  have hs := size_pos hw
  have e2 : IntKind.wrap .i64 (1 * 2 ^ min p.w.toNat 64) = sizeS p.w := by
    rw [Nat.min_eq_left (by omega), Int.one_mul, ← size_eq hw]
    exact wrap_small _ (by omega) (by omega)
  rw [e1, e2]
  refine ⟨⟨h0, hd⟩, g1, br_dec (fun q => by omega) (fun _ => ⟨⟨h0, hd⟩, g1, br_bne (fun q => absurd rfl q) (fun _ => br_dec (fun q => by omega) (fun _ => ⟨by omega, br_dec (fun q => by omega) (fun _ => ih _ ⟨by omega, by omega⟩ (by omega))⟩))⟩)⟩
theorem digP_range (s : Int) (hs : 0 < s) (m : Nat) (n : Int) : ∀ x ∈ digP s m n, 0 ≤ x ∧ x < s := fun x hx => by
  unfold digP at hx
  obtain ⟨k, _, rfl⟩ := List.mem_map.1 hx
  exact ⟨Int.emod_nonneg _ (by omega), Int.emod_lt_of_pos _ hs⟩
theorem c_lPub_good : c_lPub.fe.Good Try.prog := by
  refine FT.good c_lPub ⟨Try.f12, by kernel_rfl, by decide +kernel, by kernel_rfl⟩ (fun ⟨m, i⟩ => by first | rfl | simp [c_lPub, rrRef, rint, rpair, rsplit, rnewI, rnewE, rstab, rplaces, ri, rb, rib, rnum, rby, rss, rrun, rstep, rins, Sta.fresh]) fun ⟨m, i⟩ hp => ?_
  refine acalls_le s_lPub_sound (fn := Try.f12) (a := a_lPub) (nargs := 2) (tbl := [(11, [5, 8, 9, 11, 12, 13, 73, 74, 75]), (17, [5, 8, 9, 11, 12, 16])]) (by kernel_rfl) (by kernel_rfl) rfl (m := 400) ?_
  show VC.holds _ _ _ (a_lPub.start s_lPub 400 [al m, ai i])
  rw [t_lPub]
  try simp only [asRows_sl, asInt_int, asBool_bool, asStr_str, listOf_rowsOn, List.drop_zero, Prg.eta, Sta.eta, rowsOn_length, getD_drop, Nat.reduceAdd, rd_int, rd_PMem_name, rd_PMem_secret, rd_PMem_n, rd_PLabel_name, rd_PLabel_at_, rd_Ins_kind, rd_Ins_op, rd_Ins_d, rd_Ins_aR, rd_Ins_aN, rd_Ins_bR, rd_Ins_bN, rd_Ins_name, rd_Ins_target, rd_Ent_pc, rd_Ent_val, rd_Ent_addr, rd_Ent_fro, rd_Ent_next, rd_Ent_done, rd_Ent_known, rd_Ent_fault, rd_Place_reg, rd_Place_n, rd_Place_secret, rd_Obs_kind, rd_Obs_at_, rd_Dir_kind, rd_Dir_n, Prg.of_cells, Sta.of_cells]
  try simp only [c_lPub] at hp
  refine ⟨PreOk.mk trivial rfl, all_holds fun p hp0 => ?_⟩
  have hwf : WFM p := by rw [hp0]; exact (makeS_spec _).1
  clear hp0
  have hm := hwf.toMems
  have hw : okW p.w := hwf.ok.w
  have hs := size_pos hw
  obtain ⟨l1, l2, l3⟩ := split_len hm
  refine ⟨PreOk.mk ⟨hw, hm⟩ rfl, all_holds fun n hn => ?_⟩
  replace hn : n = countS p 100000 := hn
  unfold countS at hn
  by_cases hc : min (max 100000 0) 1000000 < cntS p
  · rw [if_pos hc] at hn
    subst hn
    exact br_t rfl ⟨PreOk.mk trivial rfl, ret_le (RR.le_refl _)⟩
  rw [if_neg hc] at hn
  subst hn
  refine br_f rfl (br_beq (fun _ => ⟨PreOk.mk trivial rfl, ret_le (RR.le_refl _)⟩) (fun h0 => ?_))
  have hcp : 0 ≤ cntS p := by
    have b1 := powS_pos hw (openS p).length
    have b2 := twoS_pos (powS_pos hw (secS p).length).1
    have : 0 ≤ powS p (openS p).length * twoS (powS p (secS p).length) := Int.mul_nonneg (by omega) b2.1
    unfold cntS farS; omega
  dsimp only at h0 ⊢
  have eb : bits .and .i64 i 16777215 = i % 16777216 := and_mask i 24 (by decide)
  have e3 : Int.tmod (i % 16777216) (cntS p) = i % 16777216 % cntS p := Int.tmod_eq_emod_of_nonneg (by omega)
  have k0 := Int.emod_nonneg (i % 16777216) h0
  have k1 := Int.emod_lt_of_pos (i % 16777216) (show 0 < cntS p by omega)
  rw [eb, e3]
  generalize i % 16777216 % cntS p = j at k0 k1 ⊢
  obtain ⟨u, o, q, ha, hu0, hu1, ho0, ho1, hq1, _⟩ := (atP_spec hw j).1 ⟨k0, by omega, k1⟩
  obtain ⟨s1, a1, a2, a3, a4, a5, a6⟩ := start_hold p hm (rowP p u o) (rowP_len p u o)
  obtain ⟨s2, b1, b2, b3, b4, b5, b6⟩ := start_hold p hm (rowP p u q) (rowP_len p u q)
  obtain ⟨v1, v2⟩ := holdV_row p hm hw u o
  obtain ⟨v3, v4⟩ := holdV_row p hm hw u q
  rw [a1] at v1 v2
  rw [b1] at v3 v4
  rw [a1, b1] at ha
  refine ⟨h0, PreOk.mk ⟨hw, hm⟩ rfl, all_holds fun y hy => ?_⟩
  replace hy : y = (s1, s2, true) := by rw [hy, ← ha]; simp [v_pAt]
  subst hy
  refine br_f rfl (br_bne (fun h => absurd a4 h) (fun _ => br_bne (fun h => absurd (by rw [a3]; rfl) h) (fun _ => ⟨PreOk.mk hm rfl, br_bne (fun h => absurd a2 h) (fun _ => ?_)⟩)))
  simp only [Prg.of_cells, Sta.of_cells]
  refine ⟨PreOk.mk ⟨hm, a2⟩ rfl, all_holds fun x hx => ⟨PreOk.mk ⟨hm, b2⟩ rfl, all_holds fun y hy => ⟨PreOk.mk ⟨hm, a2⟩ rfl, all_holds fun g hg => ⟨PreOk.mk ⟨hm, b2⟩ rfl, all_holds fun v hv => ?_⟩⟩⟩⟩
  replace hx : x = digP (sizeS p.w) (secS p).length o := by rw [hx]; exact v2
  replace hy : y = digP (sizeS p.w) (secS p).length q := by rw [hy]; exact v4
  replace hg : g = digP (sizeS p.w) (openS p).length u := by rw [hg]; exact v1
  replace hv : v = digP (sizeS p.w) (openS p).length u := by rw [hv]; exact v3
  obtain ⟨c1, _⟩ := lessL_dig (sizeS p.w) (by omega) (secS p).length o q
  obtain ⟨c2, _⟩ := lessL_dig (sizeS p.w) (by omega) (secS p).length q o
  rw [Int.emod_eq_of_lt ho0 (by omega), Int.emod_eq_of_lt (by omega) hq1] at c1 c2
  rw [decide_eq_true ho1] at c1
  rw [decide_eq_false (by omega)] at c2
  rw [← hx, ← hy] at c1 c2
  rw [hv, ← hg]
  refine l_pp0 p s1 s2 x y g hw (by rw [hg]; exact digP_range _ (by omega) _ _) (by rw [hg, digP_len]; omega) (l_pp1_0 p s1 s2 x y a6 b6 (by rw [hx, digP_len]; omega) (by rw [hy, digP_len]; omega) c1 c2) 0 ⟨by omega, by omega⟩
end Go.Proofs.Ytclabjihjopclaa.Ax
end
