/- One by one, by the document: auguryref7's step and run. -/
import Derived.Test.YtclabjihjopclaaF15
namespace Go.Proofs.Ytclabjihjopclaa.Ax
open Go.RowKit
set_option linter.unusedVariables false
set_option linter.unusedSimpArgs false
def c_rAt : FT (Prg × Int) := ⟨62, fun x => [ap x.1, ai x.2], rdPI, fun _ => True, fun x => rins (atS x.1.ins x.2), false, fun x => by simp [ap, ai, rdPI]⟩
noncomputable def a_rAt : FnA := (fnA Try.prog Try.f62 2 []).getD ⟨0, .skip, [], []⟩
def s_rAt : Sp := spT []
theorem s_rAt_sound : s_rAt.sound Try.prog := spT_sound fun e he => by cases he
set_option maxRecDepth 100000 in
theorem t_rAt (p : Prg) (i : Int) : a_rAt.start s_rAt 400 [ap p, ai i] =
(VC.br (decide (i < (0 : Int)))
 (VC.ret (some (RR.agg [Rc.d (D.int IntKind.i64 (12 : Int)), Rc.d (D.int IntKind.i64 (0 : Int)), Rc.d (D.int IntKind.i64 (0 : Int)), Rc.d (D.bool false), Rc.d (D.int IntKind.i64 (0 : Int)), Rc.d (D.bool false), Rc.d (D.int IntKind.i64 (0 : Int)), Rc.d (D.str { data := #[] }), Rc.d (D.int IntKind.i64 (0 : Int))])))
 (VC.br (decide ((↑(List.length (rowsOn p.ins)) : Int) ≤ i))
  (VC.ret (some (RR.agg [Rc.d (D.int IntKind.i64 (12 : Int)), Rc.d (D.int IntKind.i64 (0 : Int)), Rc.d (D.int IntKind.i64 (0 : Int)), Rc.d (D.bool false), Rc.d (D.int IntKind.i64 (0 : Int)), Rc.d (D.bool false), Rc.d (D.int IntKind.i64 (0 : Int)), Rc.d (D.str { data := #[] }), Rc.d (D.int IntKind.i64 (0 : Int))])))
  (VC.need ((0 : Int) ≤ i ∧ i < (↑(List.length (rowsOn p.ins)) : Int) ∧ List.length (rowAt (rowsOn p.ins) (Int.toNat i)) = (9 : Nat))
  (VC.need (okSh [Kd.int IntKind.i64, Kd.int IntKind.i64, Kd.int IntKind.i64, Kd.bool, Kd.int IntKind.i64, Kd.bool, Kd.int IntKind.i64, Kd.str, Kd.int IntKind.i64] (rowAt (rowsOn p.ins) (Int.toNat i)))
  (VC.ret (some (RR.agg [Rc.d (D.int IntKind.i64 (asInt (List.getD (rowAt (rowsOn p.ins) (Int.toNat i)) (0 : Nat) D.nilp))), Rc.d (D.int IntKind.i64 (asInt (List.getD (rowAt (rowsOn p.ins) (Int.toNat i)) (1 : Nat) D.nilp))), Rc.d (D.int IntKind.i64 (asInt (List.getD (rowAt (rowsOn p.ins) (Int.toNat i)) (2 : Nat) D.nilp))), Rc.d (D.bool (asBool (List.getD (rowAt (rowsOn p.ins) (Int.toNat i)) (3 : Nat) D.nilp))), Rc.d (D.int IntKind.i64 (asInt (List.getD (rowAt (rowsOn p.ins) (Int.toNat i)) (4 : Nat) D.nilp))), Rc.d (D.bool (asBool (List.getD (rowAt (rowsOn p.ins) (Int.toNat i)) (5 : Nat) D.nilp))), Rc.d (D.int IntKind.i64 (asInt (List.getD (rowAt (rowsOn p.ins) (Int.toNat i)) (6 : Nat) D.nilp))), Rc.d (D.str (asStr (List.getD (rowAt (rowsOn p.ins) (Int.toNat i)) (7 : Nat) D.nilp))), Rc.d (D.int IntKind.i64 (asInt (List.getD (rowAt (rowsOn p.ins) (Int.toNat i)) (8 : Nat) D.nilp)))]))))))) := by kernel_rfl
theorem c_rAt_good : c_rAt.fe.Good Try.prog := by
  refine FT.good c_rAt ⟨Try.f62, by kernel_rfl, by decide +kernel, by kernel_rfl⟩ (fun ⟨p, i⟩ => by first | rfl | simp [c_rAt, rrRef, rrun, rstep, rins, rnum, rby, rss, rnewI, rnewE, rstab, rplaces, ri, rb, rib, Sta.fresh]) fun ⟨p, i⟩ hp => ?_
  refine acalls_le s_rAt_sound (fn := Try.f62) (a := a_rAt) (nargs := 2) (tbl := []) (by kernel_rfl) (by kernel_rfl) rfl (m := 400) ?_
  show VC.holds _ _ _ (a_rAt.start s_rAt 400 [ap p, ai i])
  rw [t_rAt]
  try simp only [asRows_sl, asInt_int, asBool_bool, asStr_str, listOf_rowsOn, List.drop_zero, Prg.eta, Sta.eta, rowsOn_length, getD_drop, Nat.reduceAdd, rd_int, rd_PMem_name, rd_PMem_secret, rd_PMem_n, rd_PLabel_name, rd_PLabel_at_, rd_Ins_kind, rd_Ins_op, rd_Ins_d, rd_Ins_aR, rd_Ins_aN, rd_Ins_bR, rd_Ins_bN, rd_Ins_name, rd_Ins_target, rd_Ent_pc, rd_Ent_val, rd_Ent_addr, rd_Ent_fro, rd_Ent_next, rd_Ent_done, rd_Ent_known, rd_Ent_fault, rd_Place_reg, rd_Place_n, rd_Place_secret, rd_Obs_kind, rd_Obs_at_, rd_Dir_kind, rd_Dir_n, Prg.of_cells, Sta.of_cells]
  try simp only [c_rAt] at hp
  repeat' first
    | refine br_not ?_
    | refine br_dec (fun _ => ?_) (fun _ => ?_)
    | refine br_beq (fun _ => ?_) (fun _ => ?_)
    | refine br_bne (fun _ => ?_) (fun _ => ?_)
    | refine br_holds (fun _ => ?_) (fun _ => ?_)
    | refine ⟨PreOk.mk ?_ rfl, ?_⟩
    | refine ⟨idx_ok _ _ _ rfl (by omega) (by omega), ?_⟩
    | refine ⟨okSh_ok _ _ _ (fun _ => rfl) (by omega) (by omega), ?_⟩
    | refine ⟨okSh_okD _ _ _ _ (fun _ => rfl) (by omega) (by omega), ?_⟩
    | refine ⟨aload_ok _ _ rfl (fun _ => rfl) (by omega) (by omega), ?_⟩
    | refine ⟨aload_okD _ _ _ rfl (fun _ => rfl) (by omega) (by omega), ?_⟩
    | refine ⟨astore_ok (by assumption) rfl (by omega) (by omega) (by decide), ?_⟩
    | refine ⟨app_ok (by assumption) rfl rfl (by simp only [List.length_cons, List.length_nil]; omega), ?_⟩
    | refine need_holds ?_ fun _ => ?_
    | refine all_holds fun y hy => ?_
    | refine ret_le ?_
  all_goals refine RR.le_of_eq ?_
  · show _ = rins (atS p.ins i)
    unfold atS; rw [if_pos (.inl ‹_›)]; rfl
  · show _ = rins (atS p.ins i)
    unfold atS; rw [if_pos (.inr ‹_›)]; rfl
  · show _ = rins (atS p.ins i)
    unfold atS; rw [if_neg (by omega)]; rfl
noncomputable def v_rAt : Prg × Int → Ins := fun x => atS x.1.ins x.2
noncomputable def sh_rAt : Ins → RR := fun i => rins i
theorem e_rAt (x : Prg × Int) : sh_rAt (v_rAt x) = c_rAt.ans x := rfl
structure Regs where
  r0 : Int
  r1 : Int
  r2 : Int
  r3 : Int
  deriving Inhabited
def Regs.get (s : Regs) (r : Int) : Int := if r = 0 then s.r0 else if r = 1 then s.r1 else if r = 2 then s.r2 else s.r3
def aRegs (g : Regs) : A := .agg [.int .i64 g.r0, .int .i64 g.r1, .int .i64 g.r2, .int .i64 g.r3]
def rdPRV : List A → Prg × Regs × Bool × Int
  | [.agg l, .agg [.int _ a, .int _ b, .int _ c, .int _ d], .agg [.bool r, .int _ i]] => (Prg.of l, ⟨a, b, c, d⟩, r, i)
  | _ => default
def valR (w : Int) (g : Regs) (r : Bool) (n : Int) : Int := if r then g.get (n % 4) else maskS w n
def c_rVal : FT (Prg × Regs × Bool × Int) := ⟨109, fun x => [ap x.1, aRegs x.2.1, aVal x.2.2.1 x.2.2.2], rdPRV, fun _ => True, fun x => ri (valR x.1.w x.2.1 x.2.2.1 x.2.2.2), false, fun x => by simp [ap, aRegs, aVal, rdPRV]⟩
noncomputable def a_rVal : FnA := (fnA Try.prog Try.f109 3 []).getD ⟨0, .skip, [], []⟩
def s_rVal : Sp := spT [c_rMask.fe]
theorem s_rVal_sound : s_rVal.sound Try.prog := spT_sound fun e he => by
  simp only [List.mem_cons, List.not_mem_nil, or_false] at he
  rcases he with rfl
  · exact c_rMask_good
set_option maxRecDepth 100000 in
theorem t_rVal (p : Prg) (g : Regs) (r : Bool) (n : Int) : a_rVal.start s_rVal 400 [ap p, aRegs g, aVal r n] =
(VC.br (r)
 (VC.br (decide (bits BinOp.and IntKind.i64 n (3 : Int) = (0 : Int)))
  (VC.ret (some (RR.c (Rc.d (D.int IntKind.i64 g.r0)))))
  (VC.br (decide (bits BinOp.and IntKind.i64 n (3 : Int) = (1 : Int)))
   (VC.ret (some (RR.c (Rc.d (D.int IntKind.i64 g.r1)))))
   (VC.br (decide (bits BinOp.and IntKind.i64 n (3 : Int) = (2 : Int)))
    (VC.ret (some (RR.c (Rc.d (D.int IntKind.i64 g.r2)))))
    (VC.br (decide (bits BinOp.and IntKind.i64 n (3 : Int) = (3 : Int)))
     (VC.ret (some (RR.c (Rc.d (D.int IntKind.i64 g.r3)))))
     VC.ff))))
 (VC.need (PreOk c_rMask (p.w, n) [A.c (D.int IntKind.i64 p.w), A.c (D.int IntKind.i64 n)])
 (VC.ret (some (RR.c (Rc.d (D.int IntKind.i64 (maskS p.w n)))))))) := by kernel_rfl
theorem c_rVal_good : c_rVal.fe.Good Try.prog := by
  refine FT.good c_rVal ⟨Try.f109, by kernel_rfl, by decide +kernel, by kernel_rfl⟩ (fun ⟨p, g, r, n⟩ => by first | rfl | simp [c_rVal, rrRef, rrun, rstep, rins, rnum, rby, rss, rnewI, rnewE, rstab, rplaces, ri, rb, rib, Sta.fresh]) fun ⟨p, g, r, n⟩ hp => ?_
  refine acalls_le s_rVal_sound (fn := Try.f109) (a := a_rVal) (nargs := 3) (tbl := []) (by kernel_rfl) (by kernel_rfl) rfl (m := 400) ?_
  show VC.holds _ _ _ (a_rVal.start s_rVal 400 [ap p, aRegs g, aVal r n])
  rw [t_rVal]
  try simp only [asRows_sl, asInt_int, asBool_bool, asStr_str, listOf_rowsOn, List.drop_zero, Prg.eta, Sta.eta, rowsOn_length, getD_drop, Nat.reduceAdd, rd_int, rd_PMem_name, rd_PMem_secret, rd_PMem_n, rd_PLabel_name, rd_PLabel_at_, rd_Ins_kind, rd_Ins_op, rd_Ins_d, rd_Ins_aR, rd_Ins_aN, rd_Ins_bR, rd_Ins_bN, rd_Ins_name, rd_Ins_target, rd_Ent_pc, rd_Ent_val, rd_Ent_addr, rd_Ent_fro, rd_Ent_next, rd_Ent_done, rd_Ent_known, rd_Ent_fault, rd_Place_reg, rd_Place_n, rd_Place_secret, rd_Obs_kind, rd_Obs_at_, rd_Dir_kind, rd_Dir_n, Prg.of_cells, Sta.of_cells]
  try simp only [c_rVal] at hp
  simp only [and3]
  repeat' first
    | refine br_not ?_
    | refine br_dec (fun _ => ?_) (fun _ => ?_)
    | refine br_beq (fun _ => ?_) (fun _ => ?_)
    | refine br_bne (fun _ => ?_) (fun _ => ?_)
    | refine br_holds (fun _ => ?_) (fun _ => ?_)
    | refine ⟨PreOk.mk ?_ rfl, ?_⟩
    | refine ⟨idx_ok _ _ _ rfl (by omega) (by omega), ?_⟩
    | refine ⟨okSh_ok _ _ _ (fun _ => rfl) (by omega) (by omega), ?_⟩
    | refine ⟨okSh_okD _ _ _ _ (fun _ => rfl) (by omega) (by omega), ?_⟩
    | refine ⟨aload_ok _ _ rfl (fun _ => rfl) (by omega) (by omega), ?_⟩
    | refine ⟨aload_okD _ _ _ rfl (fun _ => rfl) (by omega) (by omega), ?_⟩
    | refine ⟨astore_ok (by assumption) rfl (by omega) (by omega) (by decide), ?_⟩
    | refine ⟨app_ok (by assumption) rfl rfl (by simp only [List.length_cons, List.length_nil]; omega), ?_⟩
    | refine need_holds ?_ fun _ => ?_
    | refine all_holds fun y hy => ?_
    | refine ret_le ?_
  all_goals try exact trivial
  all_goals try (exfalso; omega)
  all_goals refine RR.le_of_eq ?_
  all_goals simp [c_rVal, valR, Regs.get, ri, *]
noncomputable def v_rVal : Prg × Regs × Bool × Int → Int := fun x => valR x.1.w x.2.1 x.2.2.1 x.2.2.2
noncomputable def sh_rVal : Int → RR := fun i => ri i
theorem e_rVal (x : Prg × Regs × Bool × Int) : sh_rVal (v_rVal x) = c_rVal.ans x := rfl
def c_rJump : FT (Prg × Int) := ⟨111, fun x => [ap x.1, ai x.2], rdPI, fun _ => True, fun x => ri (min x.2 x.1.ins.length), false, fun x => by simp [ap, ai, rdPI]⟩
noncomputable def a_rJump : FnA := (fnA Try.prog Try.f111 2 []).getD ⟨0, .skip, [], []⟩
def s_rJump : Sp := spT []
theorem s_rJump_sound : s_rJump.sound Try.prog := spT_sound fun e he => by cases he
set_option maxRecDepth 100000 in
theorem t_rJump (p : Prg) (i : Int) : a_rJump.start s_rJump 400 [ap p, ai i] =
(VC.ret (some (RR.c (Rc.d (D.int IntKind.i64 (min i (↑(List.length (rowsOn p.ins)) : Int))))))) := by kernel_rfl
theorem c_rJump_good : c_rJump.fe.Good Try.prog := by
  refine FT.good c_rJump ⟨Try.f111, by kernel_rfl, by decide +kernel, by kernel_rfl⟩ (fun ⟨p, i⟩ => by first | rfl | simp [c_rJump, rrRef, rrun, rstep, rins, rnum, rby, rss, rnewI, rnewE, rstab, rplaces, ri, rb, rib, Sta.fresh]) fun ⟨p, i⟩ hp => ?_
  refine acalls_le s_rJump_sound (fn := Try.f111) (a := a_rJump) (nargs := 2) (tbl := []) (by kernel_rfl) (by kernel_rfl) rfl (m := 400) ?_
  show VC.holds _ _ _ (a_rJump.start s_rJump 400 [ap p, ai i])
  rw [t_rJump]
  try simp only [asRows_sl, asInt_int, asBool_bool, asStr_str, listOf_rowsOn, List.drop_zero, Prg.eta, Sta.eta, rowsOn_length, getD_drop, Nat.reduceAdd, rd_int, rd_PMem_name, rd_PMem_secret, rd_PMem_n, rd_PLabel_name, rd_PLabel_at_, rd_Ins_kind, rd_Ins_op, rd_Ins_d, rd_Ins_aR, rd_Ins_aN, rd_Ins_bR, rd_Ins_bN, rd_Ins_name, rd_Ins_target, rd_Ent_pc, rd_Ent_val, rd_Ent_addr, rd_Ent_fro, rd_Ent_next, rd_Ent_done, rd_Ent_known, rd_Ent_fault, rd_Place_reg, rd_Place_n, rd_Place_secret, rd_Obs_kind, rd_Obs_at_, rd_Dir_kind, rd_Dir_n, Prg.of_cells, Sta.of_cells]
  try simp only [c_rJump] at hp
  repeat' first
    | refine br_not ?_
    | refine br_dec (fun _ => ?_) (fun _ => ?_)
    | refine br_beq (fun _ => ?_) (fun _ => ?_)
    | refine br_bne (fun _ => ?_) (fun _ => ?_)
    | refine br_holds (fun _ => ?_) (fun _ => ?_)
    | refine ⟨PreOk.mk ?_ rfl, ?_⟩
    | refine ⟨idx_ok _ _ _ rfl (by omega) (by omega), ?_⟩
    | refine ⟨okSh_ok _ _ _ (fun _ => rfl) (by omega) (by omega), ?_⟩
    | refine ⟨okSh_okD _ _ _ _ (fun _ => rfl) (by omega) (by omega), ?_⟩
    | refine ⟨aload_ok _ _ rfl (fun _ => rfl) (by omega) (by omega), ?_⟩
    | refine ⟨aload_okD _ _ _ rfl (fun _ => rfl) (by omega) (by omega), ?_⟩
    | refine ⟨astore_ok (by assumption) rfl (by omega) (by omega) (by decide), ?_⟩
    | refine ⟨app_ok (by assumption) rfl rfl (by simp only [List.length_cons, List.length_nil]; omega), ?_⟩
    | refine need_holds ?_ fun _ => ?_
    | refine all_holds fun y hy => ?_
    | refine ret_le ?_
  exact RR.le_of_eq (by simp [c_rJump, ri, Int.min_comm])
noncomputable def v_rJump : Prg × Int → Int := fun x => min x.2 x.1.ins.length
noncomputable def sh_rJump : Int → RR := fun i => ri i
theorem e_rJump (x : Prg × Int) : sh_rJump (v_rJump x) = c_rJump.ans x := rfl
noncomputable def v_rMask : Int × Int → Int := fun x => maskS x.1 x.2
noncomputable def sh_rMask : Int → RR := fun i => ri i
theorem e_rMask (x : Int × Int) : sh_rMask (v_rMask x) = c_rMask.ans x := rfl
noncomputable def v_rDo : Int × Int × Int × Int → Int × Bool := fun x => doS x.1 x.2.1 x.2.2.1 x.2.2.2
noncomputable def sh_rDo : Int × Bool → RR := fun i => rib i
theorem e_rDo (x : Int × Int × Int × Int) : sh_rDo (v_rDo x) = c_rDo.ans x := rfl
noncomputable def a_rStep : FnA := (fnA Try.prog Try.f58 2 []).getD ⟨0, .skip, [], []⟩
noncomputable def s_rStep : Sp := spT [c_rAt.gfe v_rAt sh_rAt e_rAt, c_rVal.gfe v_rVal sh_rVal e_rVal, c_rMask.gfe v_rMask sh_rMask e_rMask, c_rDo.gfe v_rDo sh_rDo e_rDo, c_rJump.gfe v_rJump sh_rJump e_rJump]
theorem s_rStep_sound : s_rStep.sound Try.prog := spT_sound fun e he => by
  simp only [List.mem_cons, List.not_mem_nil, or_false] at he
  rcases he with rfl | rfl | rfl | rfl | rfl
  · exact FT.gfe_good c_rAt_good
  · exact FT.gfe_good c_rVal_good
  · exact FT.gfe_good c_rMask_good
  · exact FT.gfe_good c_rDo_good
  · exact FT.gfe_good c_rJump_good
set_option maxRecDepth 100000 in
theorem t_rStep (p : Prg) (s : Sta) : a_rStep.start s_rStep 400 [ap p, as_ s] =
(VC.need (PreOk c_rAt (Prg.of (Prg.cells p), s.pc) [A.agg (Prg.cells p), A.c (D.int IntKind.i64 s.pc)])
(VC.all (v_rAt (Prg.of (Prg.cells p), s.pc)) fun (y2 : Ins) =>
(VC.need (PreOk c_rVal (Prg.of (Prg.cells p), { r0 := s.r0, r1 := s.r1, r2 := s.r2, r3 := s.r3 }, y2.aR, y2.aN) [A.agg (Prg.cells p), A.agg [D.int IntKind.i64 s.r0, D.int IntKind.i64 s.r1, D.int IntKind.i64 s.r2, D.int IntKind.i64 s.r3], A.agg [D.bool y2.aR, D.int IntKind.i64 y2.aN]])
(VC.all (v_rVal (Prg.of (Prg.cells p), { r0 := s.r0, r1 := s.r1, r2 := s.r2, r3 := s.r3 }, y2.aR, y2.aN)) fun (y3 : Int) =>
(VC.need (PreOk c_rVal (Prg.of (Prg.cells p), { r0 := s.r0, r1 := s.r1, r2 := s.r2, r3 := s.r3 }, y2.bR, y2.bN) [A.agg (Prg.cells p), A.agg [D.int IntKind.i64 s.r0, D.int IntKind.i64 s.r1, D.int IntKind.i64 s.r2, D.int IntKind.i64 s.r3], A.agg [D.bool y2.bR, D.int IntKind.i64 y2.bN]])
(VC.all (v_rVal (Prg.of (Prg.cells p), { r0 := s.r0, r1 := s.r1, r2 := s.r2, r3 := s.r3 }, y2.bR, y2.bN)) fun (y4 : Int) =>
(VC.need ((List.all (rowsOn s.mem) fun r ↦ List.length r == (1 : Nat)) = true ∧ (List.all ([] : List (List D)) fun r ↦ List.length r == (1 : Nat)) = true ∧ ((0 : Nat) + List.length (rowsOn s.mem) + (100 : Nat)) * (9 : Nat) ≤ (70368744177664 : Nat))
(VC.need ((List.all (rowsOn s.stack) fun r ↦ List.length r == (1 : Nat)) = true ∧ (List.all ([] : List (List D)) fun r ↦ List.length r == (1 : Nat)) = true ∧ ((0 : Nat) + List.length (rowsOn s.stack) + (100 : Nat)) * (9 : Nat) ≤ (70368744177664 : Nat))
(VC.need (PreOk c_rMask (p.w, IntKind.wrap IntKind.i64 (y3 + y4)) [A.c (D.int IntKind.i64 p.w), A.c (D.int IntKind.i64 (IntKind.wrap IntKind.i64 (y3 + y4)))])
(VC.all (v_rMask (p.w, IntKind.wrap IntKind.i64 (y3 + y4))) fun (y5 : Int) =>
(VC.br (y2.kind == (1 : Int))
 (VC.need (PreOk c_rDo (p.w, y2.op, y3, y4) [A.c (D.int IntKind.i64 p.w), A.c (D.int IntKind.i64 y2.op), A.c (D.int IntKind.i64 y3), A.c (D.int IntKind.i64 y4)])
 (VC.all (v_rDo (p.w, y2.op, y3, y4)) fun (y6 : Int × Bool) =>
 (VC.br (decide (bits BinOp.and IntKind.i64 y2.d (3 : Int) = (0 : Int)))
  (VC.ret (some (RR.tup [Sum.inr [Rc.d (D.int IntKind.i64 y6.fst), Rc.d (D.int IntKind.i64 s.r1), Rc.d (D.int IntKind.i64 s.r2), Rc.d (D.int IntKind.i64 s.r3), Rc.new (1 : Nat) ([] ++ rowsOn s.mem), Rc.new (1 : Nat) ([] ++ rowsOn s.stack), Rc.d (D.int IntKind.i64 (IntKind.wrap IntKind.i64 (s.pc + (1 : Int))))], Sum.inl Rc.nil, Sum.inl (Rc.d (D.int IntKind.i64 (0 : Int)))])))
  (VC.br (decide (bits BinOp.and IntKind.i64 y2.d (3 : Int) = (1 : Int)))
   (VC.ret (some (RR.tup [Sum.inr [Rc.d (D.int IntKind.i64 s.r0), Rc.d (D.int IntKind.i64 y6.fst), Rc.d (D.int IntKind.i64 s.r2), Rc.d (D.int IntKind.i64 s.r3), Rc.new (1 : Nat) ([] ++ rowsOn s.mem), Rc.new (1 : Nat) ([] ++ rowsOn s.stack), Rc.d (D.int IntKind.i64 (IntKind.wrap IntKind.i64 (s.pc + (1 : Int))))], Sum.inl Rc.nil, Sum.inl (Rc.d (D.int IntKind.i64 (0 : Int)))])))
   (VC.br (decide (bits BinOp.and IntKind.i64 y2.d (3 : Int) = (2 : Int)))
    (VC.ret (some (RR.tup [Sum.inr [Rc.d (D.int IntKind.i64 s.r0), Rc.d (D.int IntKind.i64 s.r1), Rc.d (D.int IntKind.i64 y6.fst), Rc.d (D.int IntKind.i64 s.r3), Rc.new (1 : Nat) ([] ++ rowsOn s.mem), Rc.new (1 : Nat) ([] ++ rowsOn s.stack), Rc.d (D.int IntKind.i64 (IntKind.wrap IntKind.i64 (s.pc + (1 : Int))))], Sum.inl Rc.nil, Sum.inl (Rc.d (D.int IntKind.i64 (0 : Int)))])))
    (VC.br (decide (bits BinOp.and IntKind.i64 y2.d (3 : Int) = (3 : Int)))
     (VC.ret (some (RR.tup [Sum.inr [Rc.d (D.int IntKind.i64 s.r0), Rc.d (D.int IntKind.i64 s.r1), Rc.d (D.int IntKind.i64 s.r2), Rc.d (D.int IntKind.i64 y6.fst), Rc.new (1 : Nat) ([] ++ rowsOn s.mem), Rc.new (1 : Nat) ([] ++ rowsOn s.stack), Rc.d (D.int IntKind.i64 (IntKind.wrap IntKind.i64 (s.pc + (1 : Int))))], Sum.inl Rc.nil, Sum.inl (Rc.d (D.int IntKind.i64 (0 : Int)))])))
     VC.ff))))))
 (VC.br (y2.kind == (4 : Int))
  (VC.br (y3 != (0 : Int))
   (VC.br (decide (bits BinOp.and IntKind.i64 y2.d (3 : Int) = (0 : Int)))
    (VC.ret (some (RR.tup [Sum.inr [Rc.d (D.int IntKind.i64 y4), Rc.d (D.int IntKind.i64 s.r1), Rc.d (D.int IntKind.i64 s.r2), Rc.d (D.int IntKind.i64 s.r3), Rc.new (1 : Nat) ([] ++ rowsOn s.mem), Rc.new (1 : Nat) ([] ++ rowsOn s.stack), Rc.d (D.int IntKind.i64 (IntKind.wrap IntKind.i64 (s.pc + (1 : Int))))], Sum.inl Rc.nil, Sum.inl (Rc.d (D.int IntKind.i64 (0 : Int)))])))
    (VC.br (decide (bits BinOp.and IntKind.i64 y2.d (3 : Int) = (1 : Int)))
     (VC.ret (some (RR.tup [Sum.inr [Rc.d (D.int IntKind.i64 s.r0), Rc.d (D.int IntKind.i64 y4), Rc.d (D.int IntKind.i64 s.r2), Rc.d (D.int IntKind.i64 s.r3), Rc.new (1 : Nat) ([] ++ rowsOn s.mem), Rc.new (1 : Nat) ([] ++ rowsOn s.stack), Rc.d (D.int IntKind.i64 (IntKind.wrap IntKind.i64 (s.pc + (1 : Int))))], Sum.inl Rc.nil, Sum.inl (Rc.d (D.int IntKind.i64 (0 : Int)))])))
     (VC.br (decide (bits BinOp.and IntKind.i64 y2.d (3 : Int) = (2 : Int)))
      (VC.ret (some (RR.tup [Sum.inr [Rc.d (D.int IntKind.i64 s.r0), Rc.d (D.int IntKind.i64 s.r1), Rc.d (D.int IntKind.i64 y4), Rc.d (D.int IntKind.i64 s.r3), Rc.new (1 : Nat) ([] ++ rowsOn s.mem), Rc.new (1 : Nat) ([] ++ rowsOn s.stack), Rc.d (D.int IntKind.i64 (IntKind.wrap IntKind.i64 (s.pc + (1 : Int))))], Sum.inl Rc.nil, Sum.inl (Rc.d (D.int IntKind.i64 (0 : Int)))])))
      (VC.br (decide (bits BinOp.and IntKind.i64 y2.d (3 : Int) = (3 : Int)))
       (VC.ret (some (RR.tup [Sum.inr [Rc.d (D.int IntKind.i64 s.r0), Rc.d (D.int IntKind.i64 s.r1), Rc.d (D.int IntKind.i64 s.r2), Rc.d (D.int IntKind.i64 y4), Rc.new (1 : Nat) ([] ++ rowsOn s.mem), Rc.new (1 : Nat) ([] ++ rowsOn s.stack), Rc.d (D.int IntKind.i64 (IntKind.wrap IntKind.i64 (s.pc + (1 : Int))))], Sum.inl Rc.nil, Sum.inl (Rc.d (D.int IntKind.i64 (0 : Int)))])))
       VC.ff))))
   (VC.ret (some (RR.tup [Sum.inr [Rc.d (D.int IntKind.i64 s.r0), Rc.d (D.int IntKind.i64 s.r1), Rc.d (D.int IntKind.i64 s.r2), Rc.d (D.int IntKind.i64 s.r3), Rc.new (1 : Nat) ([] ++ rowsOn s.mem), Rc.new (1 : Nat) ([] ++ rowsOn s.stack), Rc.d (D.int IntKind.i64 (IntKind.wrap IntKind.i64 (s.pc + (1 : Int))))], Sum.inl Rc.nil, Sum.inl (Rc.d (D.int IntKind.i64 (0 : Int)))]))))
  (VC.br (y2.kind == (2 : Int))
   (VC.br (decide ((↑(List.length (rowsOn s.mem)) : Int) ≤ y5))
    (VC.ret (some (RR.tup [Sum.inr [Rc.d (D.int IntKind.i64 s.r0), Rc.d (D.int IntKind.i64 s.r1), Rc.d (D.int IntKind.i64 s.r2), Rc.d (D.int IntKind.i64 s.r3), Rc.d (D.sl (rowsOn s.mem)), Rc.d (D.sl (rowsOn s.stack)), Rc.d (D.int IntKind.i64 s.pc)], Sum.inl Rc.nil, Sum.inl (Rc.d (D.int IntKind.i64 (2 : Int)))])))
    (VC.need ((0 : Int) ≤ y5 ∧ y5 < (↑(List.length (rowsOn s.mem)) : Int) ∧ List.length (rowAt (rowsOn s.mem) (Int.toNat y5)) = (1 : Nat))
    (VC.need (okSh [Kd.int IntKind.i64] (rowAt (rowsOn s.mem) (Int.toNat y5)))
    (VC.br (decide (bits BinOp.and IntKind.i64 y2.d (3 : Int) = (0 : Int)))
     (VC.ret (some (RR.tup [Sum.inr [Rc.d (D.int IntKind.i64 (asInt (List.getD (rowAt (rowsOn s.mem) (Int.toNat y5)) (0 : Nat) D.nilp))), Rc.d (D.int IntKind.i64 s.r1), Rc.d (D.int IntKind.i64 s.r2), Rc.d (D.int IntKind.i64 s.r3), Rc.new (1 : Nat) ([] ++ rowsOn s.mem), Rc.new (1 : Nat) ([] ++ rowsOn s.stack), Rc.d (D.int IntKind.i64 (IntKind.wrap IntKind.i64 (s.pc + (1 : Int))))], Sum.inl (Rc.new (2 : Nat) [[D.int IntKind.i64 (1 : Int), D.int IntKind.i64 y5]]), Sum.inl (Rc.d (D.int IntKind.i64 (0 : Int)))])))
     (VC.br (decide (bits BinOp.and IntKind.i64 y2.d (3 : Int) = (1 : Int)))
      (VC.ret (some (RR.tup [Sum.inr [Rc.d (D.int IntKind.i64 s.r0), Rc.d (D.int IntKind.i64 (asInt (List.getD (rowAt (rowsOn s.mem) (Int.toNat y5)) (0 : Nat) D.nilp))), Rc.d (D.int IntKind.i64 s.r2), Rc.d (D.int IntKind.i64 s.r3), Rc.new (1 : Nat) ([] ++ rowsOn s.mem), Rc.new (1 : Nat) ([] ++ rowsOn s.stack), Rc.d (D.int IntKind.i64 (IntKind.wrap IntKind.i64 (s.pc + (1 : Int))))], Sum.inl (Rc.new (2 : Nat) [[D.int IntKind.i64 (1 : Int), D.int IntKind.i64 y5]]), Sum.inl (Rc.d (D.int IntKind.i64 (0 : Int)))])))
      (VC.br (decide (bits BinOp.and IntKind.i64 y2.d (3 : Int) = (2 : Int)))
       (VC.ret (some (RR.tup [Sum.inr [Rc.d (D.int IntKind.i64 s.r0), Rc.d (D.int IntKind.i64 s.r1), Rc.d (D.int IntKind.i64 (asInt (List.getD (rowAt (rowsOn s.mem) (Int.toNat y5)) (0 : Nat) D.nilp))), Rc.d (D.int IntKind.i64 s.r3), Rc.new (1 : Nat) ([] ++ rowsOn s.mem), Rc.new (1 : Nat) ([] ++ rowsOn s.stack), Rc.d (D.int IntKind.i64 (IntKind.wrap IntKind.i64 (s.pc + (1 : Int))))], Sum.inl (Rc.new (2 : Nat) [[D.int IntKind.i64 (1 : Int), D.int IntKind.i64 y5]]), Sum.inl (Rc.d (D.int IntKind.i64 (0 : Int)))])))
       (VC.br (decide (bits BinOp.and IntKind.i64 y2.d (3 : Int) = (3 : Int)))
        (VC.ret (some (RR.tup [Sum.inr [Rc.d (D.int IntKind.i64 s.r0), Rc.d (D.int IntKind.i64 s.r1), Rc.d (D.int IntKind.i64 s.r2), Rc.d (D.int IntKind.i64 (asInt (List.getD (rowAt (rowsOn s.mem) (Int.toNat y5)) (0 : Nat) D.nilp))), Rc.new (1 : Nat) ([] ++ rowsOn s.mem), Rc.new (1 : Nat) ([] ++ rowsOn s.stack), Rc.d (D.int IntKind.i64 (IntKind.wrap IntKind.i64 (s.pc + (1 : Int))))], Sum.inl (Rc.new (2 : Nat) [[D.int IntKind.i64 (1 : Int), D.int IntKind.i64 y5]]), Sum.inl (Rc.d (D.int IntKind.i64 (0 : Int)))])))
        VC.ff)))))))
   (VC.br (y2.kind == (3 : Int))
    (VC.br (decide ((↑(List.length (rowsOn s.mem)) : Int) ≤ y5))
     (VC.ret (some (RR.tup [Sum.inr [Rc.d (D.int IntKind.i64 s.r0), Rc.d (D.int IntKind.i64 s.r1), Rc.d (D.int IntKind.i64 s.r2), Rc.d (D.int IntKind.i64 s.r3), Rc.d (D.sl (rowsOn s.mem)), Rc.d (D.sl (rowsOn s.stack)), Rc.d (D.int IntKind.i64 s.pc)], Sum.inl Rc.nil, Sum.inl (Rc.d (D.int IntKind.i64 (2 : Int)))])))
     (VC.br (decide (bits BinOp.and IntKind.i64 y2.d (3 : Int) = (0 : Int)))
      (VC.need ((0 : Int) ≤ y5 ∧ y5 < (↑((0 : Nat) + List.length (rowsOn s.mem)) : Int))
      (VC.need (Int.toNat y5 < List.length ([] ++ rowsOn s.mem) ∧ List.length (rowAt ([] ++ rowsOn s.mem) (Int.toNat y5)) = (1 : Nat) ∧ (1 : Nat) ≤ (1 : Nat))
      (VC.ret (some (RR.tup [Sum.inr [Rc.d (D.int IntKind.i64 s.r0), Rc.d (D.int IntKind.i64 s.r1), Rc.d (D.int IntKind.i64 s.r2), Rc.d (D.int IntKind.i64 s.r3), Rc.new (1 : Nat) (List.set ([] ++ rowsOn s.mem) (Int.toNat y5) (splice (rowAt ([] ++ rowsOn s.mem) (Int.toNat y5)) (0 : Nat) [D.int IntKind.i64 s.r0])), Rc.new (1 : Nat) ([] ++ rowsOn s.stack), Rc.d (D.int IntKind.i64 (IntKind.wrap IntKind.i64 (s.pc + (1 : Int))))], Sum.inl (Rc.new (2 : Nat) [[D.int IntKind.i64 (2 : Int), D.int IntKind.i64 y5]]), Sum.inl (Rc.d (D.int IntKind.i64 (0 : Int)))])))))
      (VC.br (decide (bits BinOp.and IntKind.i64 y2.d (3 : Int) = (1 : Int)))
       (VC.need ((0 : Int) ≤ y5 ∧ y5 < (↑((0 : Nat) + List.length (rowsOn s.mem)) : Int))
       (VC.need (Int.toNat y5 < List.length ([] ++ rowsOn s.mem) ∧ List.length (rowAt ([] ++ rowsOn s.mem) (Int.toNat y5)) = (1 : Nat) ∧ (1 : Nat) ≤ (1 : Nat))
       (VC.ret (some (RR.tup [Sum.inr [Rc.d (D.int IntKind.i64 s.r0), Rc.d (D.int IntKind.i64 s.r1), Rc.d (D.int IntKind.i64 s.r2), Rc.d (D.int IntKind.i64 s.r3), Rc.new (1 : Nat) (List.set ([] ++ rowsOn s.mem) (Int.toNat y5) (splice (rowAt ([] ++ rowsOn s.mem) (Int.toNat y5)) (0 : Nat) [D.int IntKind.i64 s.r1])), Rc.new (1 : Nat) ([] ++ rowsOn s.stack), Rc.d (D.int IntKind.i64 (IntKind.wrap IntKind.i64 (s.pc + (1 : Int))))], Sum.inl (Rc.new (2 : Nat) [[D.int IntKind.i64 (2 : Int), D.int IntKind.i64 y5]]), Sum.inl (Rc.d (D.int IntKind.i64 (0 : Int)))])))))
       (VC.br (decide (bits BinOp.and IntKind.i64 y2.d (3 : Int) = (2 : Int)))
        (VC.need ((0 : Int) ≤ y5 ∧ y5 < (↑((0 : Nat) + List.length (rowsOn s.mem)) : Int))
        (VC.need (Int.toNat y5 < List.length ([] ++ rowsOn s.mem) ∧ List.length (rowAt ([] ++ rowsOn s.mem) (Int.toNat y5)) = (1 : Nat) ∧ (1 : Nat) ≤ (1 : Nat))
        (VC.ret (some (RR.tup [Sum.inr [Rc.d (D.int IntKind.i64 s.r0), Rc.d (D.int IntKind.i64 s.r1), Rc.d (D.int IntKind.i64 s.r2), Rc.d (D.int IntKind.i64 s.r3), Rc.new (1 : Nat) (List.set ([] ++ rowsOn s.mem) (Int.toNat y5) (splice (rowAt ([] ++ rowsOn s.mem) (Int.toNat y5)) (0 : Nat) [D.int IntKind.i64 s.r2])), Rc.new (1 : Nat) ([] ++ rowsOn s.stack), Rc.d (D.int IntKind.i64 (IntKind.wrap IntKind.i64 (s.pc + (1 : Int))))], Sum.inl (Rc.new (2 : Nat) [[D.int IntKind.i64 (2 : Int), D.int IntKind.i64 y5]]), Sum.inl (Rc.d (D.int IntKind.i64 (0 : Int)))])))))
        (VC.br (decide (bits BinOp.and IntKind.i64 y2.d (3 : Int) = (3 : Int)))
         (VC.need ((0 : Int) ≤ y5 ∧ y5 < (↑((0 : Nat) + List.length (rowsOn s.mem)) : Int))
         (VC.need (Int.toNat y5 < List.length ([] ++ rowsOn s.mem) ∧ List.length (rowAt ([] ++ rowsOn s.mem) (Int.toNat y5)) = (1 : Nat) ∧ (1 : Nat) ≤ (1 : Nat))
         (VC.ret (some (RR.tup [Sum.inr [Rc.d (D.int IntKind.i64 s.r0), Rc.d (D.int IntKind.i64 s.r1), Rc.d (D.int IntKind.i64 s.r2), Rc.d (D.int IntKind.i64 s.r3), Rc.new (1 : Nat) (List.set ([] ++ rowsOn s.mem) (Int.toNat y5) (splice (rowAt ([] ++ rowsOn s.mem) (Int.toNat y5)) (0 : Nat) [D.int IntKind.i64 s.r3])), Rc.new (1 : Nat) ([] ++ rowsOn s.stack), Rc.d (D.int IntKind.i64 (IntKind.wrap IntKind.i64 (s.pc + (1 : Int))))], Sum.inl (Rc.new (2 : Nat) [[D.int IntKind.i64 (2 : Int), D.int IntKind.i64 y5]]), Sum.inl (Rc.d (D.int IntKind.i64 (0 : Int)))])))))
         VC.ff)))))
    (VC.br (y2.kind == (5 : Int))
     (VC.need (PreOk c_rDo (p.w, y2.op, y3, y4) [A.c (D.int IntKind.i64 p.w), A.c (D.int IntKind.i64 y2.op), A.c (D.int IntKind.i64 y3), A.c (D.int IntKind.i64 y4)])
     (VC.all (v_rDo (p.w, y2.op, y3, y4)) fun (y6 : Int × Bool) =>
     (VC.br (y6.fst != (0 : Int))
      (VC.ret (some (RR.tup [Sum.inr [Rc.d (D.int IntKind.i64 s.r0), Rc.d (D.int IntKind.i64 s.r1), Rc.d (D.int IntKind.i64 s.r2), Rc.d (D.int IntKind.i64 s.r3), Rc.new (1 : Nat) ([] ++ rowsOn s.mem), Rc.new (1 : Nat) ([] ++ rowsOn s.stack), Rc.d (D.int IntKind.i64 y2.target)], Sum.inl (Rc.new (2 : Nat) [[D.int IntKind.i64 (3 : Int), D.int IntKind.i64 y2.target]]), Sum.inl (Rc.d (D.int IntKind.i64 (0 : Int)))])))
      (VC.ret (some (RR.tup [Sum.inr [Rc.d (D.int IntKind.i64 s.r0), Rc.d (D.int IntKind.i64 s.r1), Rc.d (D.int IntKind.i64 s.r2), Rc.d (D.int IntKind.i64 s.r3), Rc.new (1 : Nat) ([] ++ rowsOn s.mem), Rc.new (1 : Nat) ([] ++ rowsOn s.stack), Rc.d (D.int IntKind.i64 (IntKind.wrap IntKind.i64 (s.pc + (1 : Int))))], Sum.inl (Rc.new (2 : Nat) [[D.int IntKind.i64 (3 : Int), D.int IntKind.i64 (IntKind.wrap IntKind.i64 (s.pc + (1 : Int)))]]), Sum.inl (Rc.d (D.int IntKind.i64 (0 : Int)))]))))))
     (VC.br (y2.kind == (6 : Int))
      (VC.ret (some (RR.tup [Sum.inr [Rc.d (D.int IntKind.i64 s.r0), Rc.d (D.int IntKind.i64 s.r1), Rc.d (D.int IntKind.i64 s.r2), Rc.d (D.int IntKind.i64 s.r3), Rc.new (1 : Nat) ([] ++ rowsOn s.mem), Rc.new (1 : Nat) ([] ++ rowsOn s.stack), Rc.d (D.int IntKind.i64 y2.target)], Sum.inl Rc.nil, Sum.inl (Rc.d (D.int IntKind.i64 (0 : Int)))])))
      (VC.br (y2.kind == (7 : Int))
       (VC.need (PreOk c_rJump (Prg.of (Prg.cells p), y3) [A.agg (Prg.cells p), A.c (D.int IntKind.i64 y3)])
       (VC.all (v_rJump (Prg.of (Prg.cells p), y3)) fun (y6 : Int) =>
       (VC.ret (some (RR.tup [Sum.inr [Rc.d (D.int IntKind.i64 s.r0), Rc.d (D.int IntKind.i64 s.r1), Rc.d (D.int IntKind.i64 s.r2), Rc.d (D.int IntKind.i64 s.r3), Rc.new (1 : Nat) ([] ++ rowsOn s.mem), Rc.new (1 : Nat) ([] ++ rowsOn s.stack), Rc.d (D.int IntKind.i64 y6)], Sum.inl (Rc.new (2 : Nat) [[D.int IntKind.i64 (3 : Int), D.int IntKind.i64 y6]]), Sum.inl (Rc.d (D.int IntKind.i64 (0 : Int)))])))))
       (VC.br (y2.kind == (8 : Int))
        (VC.br (decide ((4 : Int) ≤ (↑(List.length (rowsOn s.stack)) : Int)))
         (VC.ret (some (RR.tup [Sum.inr [Rc.d (D.int IntKind.i64 s.r0), Rc.d (D.int IntKind.i64 s.r1), Rc.d (D.int IntKind.i64 s.r2), Rc.d (D.int IntKind.i64 s.r3), Rc.d (D.sl (rowsOn s.mem)), Rc.d (D.sl (rowsOn s.stack)), Rc.d (D.int IntKind.i64 s.pc)], Sum.inl Rc.nil, Sum.inl (Rc.d (D.int IntKind.i64 (2 : Int)))])))
         (VC.need ((List.all [[D.int IntKind.i64 (IntKind.wrap IntKind.i64 (s.pc + (1 : Int)))]] fun r ↦ List.length r == (1 : Nat)) = true ∧ (List.all ([] ++ rowsOn s.stack) fun r ↦ List.length r == (1 : Nat)) = true ∧ (List.length ([] ++ rowsOn s.stack) + List.length [[D.int IntKind.i64 (IntKind.wrap IntKind.i64 (s.pc + (1 : Int)))]] + (100 : Nat)) * (9 : Nat) ≤ (70368744177664 : Nat))
         (VC.ret (some (RR.tup [Sum.inr [Rc.d (D.int IntKind.i64 s.r0), Rc.d (D.int IntKind.i64 s.r1), Rc.d (D.int IntKind.i64 s.r2), Rc.d (D.int IntKind.i64 s.r3), Rc.new (1 : Nat) ([] ++ rowsOn s.mem), Rc.new (1 : Nat) ([] ++ rowsOn s.stack ++ [[D.int IntKind.i64 (IntKind.wrap IntKind.i64 (s.pc + (1 : Int)))]]), Rc.d (D.int IntKind.i64 y2.target)], Sum.inl Rc.nil, Sum.inl (Rc.d (D.int IntKind.i64 (0 : Int)))])))))
        (VC.br (y2.kind == (9 : Int))
         (VC.br ((↑(List.length (rowsOn s.stack)) : Int) == (0 : Int))
          (VC.ret (some (RR.tup [Sum.inr [Rc.d (D.int IntKind.i64 s.r0), Rc.d (D.int IntKind.i64 s.r1), Rc.d (D.int IntKind.i64 s.r2), Rc.d (D.int IntKind.i64 s.r3), Rc.d (D.sl (rowsOn s.mem)), Rc.d (D.sl (rowsOn s.stack)), Rc.d (D.int IntKind.i64 s.pc)], Sum.inl Rc.nil, Sum.inl (Rc.d (D.int IntKind.i64 (2 : Int)))])))
          (VC.need ((0 : Int) ≤ IntKind.wrap IntKind.i64 ((↑(List.length (rowsOn s.stack)) : Int) - (1 : Int)) ∧ IntKind.wrap IntKind.i64 ((↑(List.length (rowsOn s.stack)) : Int) - (1 : Int)) < (↑(List.length (rowsOn s.stack)) : Int) ∧ List.length (rowAt (rowsOn s.stack) (Int.toNat (IntKind.wrap IntKind.i64 ((↑(List.length (rowsOn s.stack)) : Int) - (1 : Int))))) = (1 : Nat))
          (VC.need (okSh [Kd.int IntKind.i64] (rowAt (rowsOn s.stack) (Int.toNat (IntKind.wrap IntKind.i64 ((↑(List.length (rowsOn s.stack)) : Int) - (1 : Int))))))
          (VC.need ((0 : Int) ≤ IntKind.wrap IntKind.i64 ((↑((0 : Nat) + List.length (rowsOn s.stack)) : Int) - (1 : Int)) ∧ IntKind.wrap IntKind.i64 ((↑((0 : Nat) + List.length (rowsOn s.stack)) : Int) - (1 : Int)) ≤ (↑(List.length ([] ++ rowsOn s.stack)) : Int))
          (VC.ret (some (RR.tup [Sum.inr [Rc.d (D.int IntKind.i64 s.r0), Rc.d (D.int IntKind.i64 s.r1), Rc.d (D.int IntKind.i64 s.r2), Rc.d (D.int IntKind.i64 s.r3), Rc.new (1 : Nat) ([] ++ rowsOn s.mem), Rc.new (1 : Nat) (List.take (Int.toNat (IntKind.wrap IntKind.i64 ((↑((0 : Nat) + List.length (rowsOn s.stack)) : Int) - (1 : Int)))) ([] ++ rowsOn s.stack)), Rc.d (D.int IntKind.i64 (asInt (List.getD (rowAt (rowsOn s.stack) (Int.toNat (IntKind.wrap IntKind.i64 ((↑(List.length (rowsOn s.stack)) : Int) - (1 : Int))))) (0 : Nat) D.nilp)))], Sum.inl (Rc.new (2 : Nat) [[D.int IntKind.i64 (3 : Int), D.int IntKind.i64 (asInt (List.getD (rowAt (rowsOn s.stack) (Int.toNat (IntKind.wrap IntKind.i64 ((↑(List.length (rowsOn s.stack)) : Int) - (1 : Int))))) (0 : Nat) D.nilp))]]), Sum.inl (Rc.d (D.int IntKind.i64 (0 : Int)))])))))))
         (VC.br (y2.kind == (10 : Int))
          (VC.ret (some (RR.tup [Sum.inr [Rc.d (D.int IntKind.i64 s.r0), Rc.d (D.int IntKind.i64 s.r1), Rc.d (D.int IntKind.i64 s.r2), Rc.d (D.int IntKind.i64 s.r3), Rc.new (1 : Nat) ([] ++ rowsOn s.mem), Rc.new (1 : Nat) ([] ++ rowsOn s.stack), Rc.d (D.int IntKind.i64 (IntKind.wrap IntKind.i64 (s.pc + (1 : Int))))], Sum.inl Rc.nil, Sum.inl (Rc.d (D.int IntKind.i64 (0 : Int)))])))
          (VC.br (y2.kind == (11 : Int))
           (VC.ret (some (RR.tup [Sum.inr [Rc.d (D.int IntKind.i64 s.r0), Rc.d (D.int IntKind.i64 s.r1), Rc.d (D.int IntKind.i64 s.r2), Rc.d (D.int IntKind.i64 s.r3), Rc.d (D.sl (rowsOn s.mem)), Rc.d (D.sl (rowsOn s.stack)), Rc.d (D.int IntKind.i64 s.pc)], Sum.inl Rc.nil, Sum.inl (Rc.d (D.int IntKind.i64 (1 : Int)))])))
           (VC.ret (some (RR.tup [Sum.inr [Rc.d (D.int IntKind.i64 s.r0), Rc.d (D.int IntKind.i64 s.r1), Rc.d (D.int IntKind.i64 s.r2), Rc.d (D.int IntKind.i64 s.r3), Rc.d (D.sl (rowsOn s.mem)), Rc.d (D.sl (rowsOn s.stack)), Rc.d (D.int IntKind.i64 s.pc)], Sum.inl Rc.nil, Sum.inl (Rc.d (D.int IntKind.i64 (2 : Int)))])))))))))))))))))))))))) := by kernel_rfl
structure InsOk (i : Ins) : Prop where
  d : 0 ≤ i.d ∧ i.d < 4
  aN : 0 ≤ i.aN ∧ i.aN < 4
  bN : 0 ≤ i.bN ∧ i.bN < 4
structure PrgOk (p : Prg) : Prop where
  w : okW p.w
  mems : Mems p.mems
  len : p.ins.length ≤ 1000000
  ins : ∀ i ∈ p.ins, InsOk i
structure StaOk (p : Prg) (s : Sta) : Prop where
  regs : ∀ r, 0 ≤ r ∧ r < 4 → 0 ≤ s.reg r ∧ s.reg r < 2 ^ p.w.toNat
  vals : ∀ x ∈ s.mem, 0 ≤ x ∧ x < 2 ^ p.w.toNat
  mem : (s.mem.length : Int) = cellsS p.mems
  stack : s.stack.length ≤ 1000000
theorem at_ok {p : Prg} (hp : PrgOk p) (pc : Int) : InsOk (atS p.ins pc) := by
  unfold atS
  split
  · exact ⟨by decide, by decide, by decide⟩
  · exact hp.ins _ (rd_mem _ _ (by omega) (by omega))
theorem StaOk.small {p : Prg} {s : Sta} (hp : PrgOk p) (h : StaOk p s) : SmallS s := by
  have := (places_len p hp.mems).2
  have := h.mem
  exact ⟨by omega, h.stack⟩
def Sta.regs (s : Sta) : Regs := ⟨s.r0, s.r1, s.r2, s.r3⟩
theorem get_regs (s : Sta) {r : Int} (h : 0 ≤ r ∧ r < 4) : s.regs.get (r % 4) = s.reg r := by
  have : r = 0 ∨ r = 1 ∨ r = 2 ∨ r = 3 := by omega
  rcases this with rfl | rfl | rfl | rfl <;> rfl
theorem valR_eq {p : Prg} {s : Sta} (hp : PrgOk p) (hs : StaOk p s) (r : Bool) {n : Int} (hn : 0 ≤ n ∧ n < 4) : valR p.w s.regs r n = valS p.w s r n := by
  unfold valR valS
  split
  · rw [get_regs s hn, maskS_id hp.w (hs.regs n hn).1 (hs.regs n hn).2]
  · rfl
def stepB (p : Prg) (s : Sta) (i : Ins) (a b at_ : Int) : Sta × List Obs × Int :=
  if i.kind = 1 ∨ i.kind = 4 then ({ s.setReg i.d (valueS p.w i a b (maskS p.w (s.reg i.d))) with pc := s.pc + 1 }, [], 0)
  else if i.kind = 2 then if at_ < cellsS p.mems ∧ at_ < s.mem.length then ({ s.setReg i.d (rd s.mem at_) with pc := s.pc + 1 }, [⟨1, at_⟩], 0) else (s, [], 2)
  else if i.kind = 3 then if at_ < cellsS p.mems ∧ at_ < s.mem.length then ({ s with mem := s.mem.set at_.toNat (maskS p.w (s.reg i.d)), pc := s.pc + 1 }, [⟨2, at_⟩], 0) else (s, [], 2)
  else if i.kind = 5 ∨ i.kind = 7 then ({ s with pc := wayS p.w p.ins.length i s.pc a b }, [⟨3, wayS p.w p.ins.length i s.pc a b⟩], 0)
  else if i.kind = 6 then ({ s with pc := i.target }, [], 0)
  else if i.kind = 8 then if 4 ≤ s.stack.length then (s, [], 2) else ({ s with stack := s.stack ++ [s.pc + 1], pc := i.target }, [], 0)
  else if i.kind = 9 then if s.stack.length = 0 then (s, [], 2) else ({ s with stack := s.stack.dropLast, pc := rd s.stack (s.stack.length - 1) }, [⟨3, rd s.stack (s.stack.length - 1)⟩], 0)
  else if i.kind = 10 then ({ s with pc := s.pc + 1 }, [], 0)
  else if i.kind = 11 then (s, [], 1)
  else (s, [], 2)
theorem stepS_B (p : Prg) (s : Sta) : stepS p s = stepB p s (atS p.ins s.pc) (valS p.w s (atS p.ins s.pc).aR (atS p.ins s.pc).aN) (valS p.w s (atS p.ins s.pc).bR (atS p.ins s.pc).bN) (maskS p.w (valS p.w s (atS p.ins s.pc).aR (atS p.ins s.pc).aN + valS p.w s (atS p.ins s.pc).bR (atS p.ins s.pc).bN)) := rfl
theorem setReg_self (s : Sta) {d : Int} (h : 0 ≤ d ∧ d < 4) : s.setReg d (s.reg d) = s := by
  have : d = 0 ∨ d = 1 ∨ d = 2 ∨ d = 3 := by omega
  rcases this with rfl | rfl | rfl | rfl <;> rfl
def c_rStep : FT (Prg × Sta) := ⟨58, fun x => [ap x.1, as_ x.2], rdPS, fun x => PrgOk x.1 ∧ StaOk x.1 x.2, fun x => rstep (stepS x.1 x.2), true, fun x => by simp [ap, as_, rdPS]⟩
theorem c_rStep_good : c_rStep.fe.Good Try.prog := by
  refine FT.good c_rStep ⟨Try.f58, by kernel_rfl, by decide +kernel, by kernel_rfl⟩ (fun ⟨p, s⟩ => by first | rfl | simp [c_rStep, rrRef, rrun, rstep, rins, rnum, rby, rss, rnewI, rnewE, rstab, rplaces, ri, rb, rib, Sta.fresh]) fun ⟨p, s⟩ hp => ?_
  refine acalls_leD s_rStep_sound (fn := Try.f58) (a := a_rStep) (nargs := 2) (tbl := []) (by kernel_rfl) (by kernel_rfl) rfl (m := 400) ?_
  show VC.holds _ _ _ (a_rStep.start s_rStep 400 [ap p, as_ s])
  rw [t_rStep]
  try simp only [asRows_sl, asInt_int, asBool_bool, asStr_str, listOf_rowsOn, List.drop_zero, Prg.eta, Sta.eta, rowsOn_length, getD_drop, Nat.reduceAdd, rd_int, rd_PMem_name, rd_PMem_secret, rd_PMem_n, rd_PLabel_name, rd_PLabel_at_, rd_Ins_kind, rd_Ins_op, rd_Ins_d, rd_Ins_aR, rd_Ins_aN, rd_Ins_bR, rd_Ins_bN, rd_Ins_name, rd_Ins_target, rd_Ent_pc, rd_Ent_val, rd_Ent_addr, rd_Ent_fro, rd_Ent_next, rd_Ent_done, rd_Ent_known, rd_Ent_fault, rd_Place_reg, rd_Place_n, rd_Place_secret, rd_Obs_kind, rd_Obs_at_, rd_Dir_kind, rd_Dir_n, Prg.of_cells, Sta.of_cells]
  try simp only [c_rStep] at hp
  obtain ⟨hp0, hs⟩ := hp
  have hsm := hs.small hp0
  have hiok := at_ok hp0 s.pc
  have e : c_rStep.ans (p, s) = rstep (stepS p s) := rfl
  rw [e, stepS_B]
  refine ⟨PreOk.mk trivial rfl, all_holds fun i e4 => ?_⟩
  replace e4 : i = atS p.ins s.pc := e4
  rw [← e4] at hiok ⊢
  have hr : i.kind ≠ 12 → IntKind.wrap .i64 (s.pc + 1) = s.pc + 1 := fun h => by
    have := at_range (l := p.ins) (pc := s.pc) (by rw [← e4]; exact h)
    have := hp0.len
    exact wrap_small _ (by omega) (by omega)
  refine ⟨PreOk.mk trivial rfl, all_holds fun a ea => ?_⟩
  replace ea : a = valS p.w s i.aR i.aN := ea.trans (valR_eq hp0 hs i.aR hiok.aN)
  refine ⟨PreOk.mk trivial rfl, all_holds fun b eb => ?_⟩
  replace eb : b = valS p.w s i.bR i.bN := eb.trans (valR_eq hp0 hs i.bR hiok.bN)
  have ha := valS_range p.w s i.aR i.aN
  have hb := valS_range p.w s i.bR i.bN
  rw [← ea, ← eb] at *
  rw [wrap_small (a + b) (by omega) (by omega)]
  have hd := hiok.d
  have hd3 : bits .and .i64 i.d 3 = i.d := by rw [and3]; omega
  rw [hd3]
  have hmd := maskS_id hp0.w (hs.regs i.d hd).1 (hs.regs i.d hd).2
  clear e e4 ea eb
  obtain ⟨hm1, hm2⟩ := hsm
  have hc := hs.mem
  refine ⟨⟨all2 _ rfl, rfl, by simp; omega⟩, ⟨⟨all2 _ rfl, rfl, by simp; omega⟩, ⟨PreOk.mk trivial rfl, all_holds fun at_ eA => ?_⟩⟩⟩
  have hA : 0 ≤ at_ := by rw [eA]; exact (maskS_range _ _).1
  replace eA : maskS p.w (a + b) = at_ := eA.symm
  rw [eA]
  have hself := setReg_self s hd
  have hcl : cellsS p.mems = s.mem.length := hc.symm
  clear hc
  have m0 : maskS p.w s.r0 = s.r0 := maskS_id hp0.w (hs.regs 0 (by decide)).1 (hs.regs 0 (by decide)).2
  have m1 : maskS p.w s.r1 = s.r1 := maskS_id hp0.w (hs.regs 1 (by decide)).1 (hs.regs 1 (by decide)).2
  have m2 : maskS p.w s.r2 = s.r2 := maskS_id hp0.w (hs.regs 2 (by decide)).1 (hs.regs 2 (by decide)).2
  have m3 : maskS p.w s.r3 = s.r3 := maskS_id hp0.w (hs.regs 3 (by decide)).1 (hs.regs 3 (by decide)).2
  have hset : at_ < s.mem.length → ∀ v, List.set (rowsOn s.mem) (Int.toNat at_) (splice (rowAt (rowsOn s.mem) (Int.toNat at_)) 0 [.int .i64 v]) = rowsOn (s.mem.set (Int.toNat at_) v) := fun h v => (OnL.set (R := rowsOn s.mem) (n := s.mem.length) (l := s.mem) ⟨rfl, rfl⟩ hA h v).1
  clear eA
  have et : List.take (Int.toNat ((s.stack.length : Int) - 1)) (rowsOn s.stack) = rowsOn s.stack.dropLast := by
    rw [show Int.toNat ((s.stack.length : Int) - 1) = s.stack.length - 1 by omega, List.dropLast_eq_take]
    unfold rowsOn
    rw [List.map_take]
  have es : rowsOn s.stack ++ [[D.int .i64 (s.pc + 1)]] = rowsOn (s.stack ++ [s.pc + 1]) := rowsOn_snoc _ _
  have hl1 : s.stack.length ≤ 1000000 := hs.stack
  have hw1 : IntKind.wrap .i64 ((s.stack.length : Int) - 1) = (s.stack.length : Int) - 1 := wrap_small _ (by omega) (by omega)
  simp only [List.nil_append, Nat.zero_add, hw1, et]
  repeat' first
    | refine br_not ?_
    | refine br_dec (fun _ => ?_) (fun _ => ?_)
    | refine br_beq (fun _ => ?_) (fun _ => ?_)
    | refine br_bne (fun _ => ?_) (fun _ => ?_)
    | refine br_holds (fun _ => ?_) (fun _ => ?_)
    | refine ⟨PreOk.mk ?_ rfl, ?_⟩
    | refine ⟨idx_ok _ _ _ rfl (by omega) (by omega), ?_⟩
    | refine ⟨okSh_ok _ _ _ (fun _ => rfl) (by omega) (by omega), ?_⟩
    | refine ⟨okSh_okD _ _ _ _ (fun _ => rfl) (by omega) (by omega), ?_⟩
    | refine ⟨aload_ok _ _ rfl (fun _ => rfl) (by omega) (by omega), ?_⟩
    | refine ⟨aload_okD _ _ _ rfl (fun _ => rfl) (by omega) (by omega), ?_⟩
    | refine ⟨astore_ok (by assumption) rfl (by omega) (by omega) (by decide), ?_⟩
    | refine ⟨app_ok (by assumption) rfl rfl (by simp only [List.length_cons, List.length_nil]; omega), ?_⟩
    | refine need_holds ?_ fun _ => ?_
    | refine all_holds fun y hy => ?_
    | refine ret_leD ?_
  all_goals subst_vars
  all_goals try simp only [v_rDo, v_rJump] at *
  all_goals try exact trivial
  all_goals try (exfalso; omega)
  all_goals try exact idx_ok _ _ _ rfl (by omega) (by omega)
  all_goals try exact ⟨by omega, by omega⟩
  all_goals try exact ⟨by rw [rowsOn_length]; omega, (idx_ok s.mem at_ 1 rfl hA (by omega)).2.2, by decide⟩
  all_goals try exact ⟨all2 _ rfl, by omega, by omega, by omega⟩
  all_goals try exact ⟨by omega, by rw [rowsOn_length]; omega⟩
  all_goals try exact ⟨all2 _ rfl, by omega, by omega, by rw [rowsOn_length]; omega⟩
  all_goals try exact ⟨rfl, all2 _ rfl, by simp; omega⟩
  all_goals try simp only [← Int.not_lt, Classical.not_not] at *
  all_goals try (refine RR.le_of_eq ?_; simp [RR.data, Rc.data, rstep, stepB, valueS, wayS, v_rDo, v_rJump, Sta.setReg, Sta.reg, Sta.cells, rowsOn_nil, obs_row, *]; done)
  all_goals try (refine RR.le_of_eq ?_; simp [RR.data, Rc.data, rstep, stepB, valueS, wayS, v_rDo, v_rJump, Sta.cells, rowsOn_nil, obs_row, *]; done)
  · have h4 : 4 ≤ s.stack.length := by omega
    refine RR.le_of_eq ?_
    simp [RR.data, Rc.data, rstep, stepB, Sta.cells, rowsOn_nil, obs_row, *]
  · have h4 : ¬ 4 ≤ s.stack.length := by omega
    have hrg : i.kind ≠ 12 := by rw [show i.kind = 8 from ‹_›]; decide
    rw [hr hrg, es]
    refine RR.le_of_eq ?_
    simp [RR.data, Rc.data, rstep, stepB, Sta.cells, rowsOn_nil, obs_row, *]
  · have h0 : s.stack = [] := List.eq_nil_of_length_eq_zero (by omega)
    refine RR.le_of_eq ?_
    simp [RR.data, Rc.data, rstep, stepB, Sta.cells, rowsOn_nil, obs_row, h0, *]
  · have h0 : ¬ s.stack = [] := fun h => by
      have hz : s.stack.length = 0 := by rw [h]; rfl
      omega
    refine RR.le_of_eq ?_
    simp [RR.data, Rc.data, rstep, stepB, Sta.cells, rowsOn_nil, obs_row, h0, *]
noncomputable def v_rStep : Prg × Sta → Sta × List Obs × Int := fun x => stepS x.1 x.2
noncomputable def sh_rStep : Sta × List Obs × Int → RR := fun x => rstep x
theorem e_rStep (x : Prg × Sta) : sh_rStep (v_rStep x) = c_rStep.ans x := rfl
theorem setReg_reg {p : Prg} {s : Sta} (h : ∀ r, 0 ≤ r ∧ r < 4 → 0 ≤ s.reg r ∧ s.reg r < 2 ^ p.w.toNat) {d v : Int} (hd : 0 ≤ d ∧ d < 4) (hv : 0 ≤ v ∧ v < 2 ^ p.w.toNat) : ∀ r, 0 ≤ r ∧ r < 4 → 0 ≤ (s.setReg d v).reg r ∧ (s.setReg d v).reg r < 2 ^ p.w.toNat := by
  intro r hr
  have h1 : d = 0 ∨ d = 1 ∨ d = 2 ∨ d = 3 := by omega
  have h2 : r = 0 ∨ r = 1 ∨ r = 2 ∨ r = 3 := by omega
  have g0 := h 0 (by decide)
  have g1 := h 1 (by decide)
  have g2 := h 2 (by decide)
  have g3 := h 3 (by decide)
  rcases h1 with rfl | rfl | rfl | rfl <;> rcases h2 with rfl | rfl | rfl | rfl <;> assumption
theorem doS_range {w : Int} (hw : okW w) (op a b : Int) : 0 ≤ (doS w op a b).1 ∧ (doS w op a b).1 < 2 ^ w.toNat := by
  have h0 : (0 : Int) < 2 ^ w.toNat := (pow_small hw).1
  unfold doS
  rw [if_pos hw]
  split
  · exact maskS_ok hw _
  · exact ⟨Int.le_refl _, h0⟩
theorem valS_ok {w : Int} (hw : okW w) (s : Sta) (r : Bool) (n : Int) : 0 ≤ valS w s r n ∧ valS w s r n < 2 ^ w.toNat := by
  unfold valS
  split
  · exact maskS_ok hw _
  · exact maskS_ok hw _
theorem step_ok {p : Prg} {s : Sta} (hp : PrgOk p) (hs : StaOk p s) : StaOk p (stepS p s).1 := by
  have hi := at_ok hp s.pc
  have ha := valS_ok hp.w s (atS p.ins s.pc).aR (atS p.ins s.pc).aN
  have hb := valS_ok hp.w s (atS p.ins s.pc).bR (atS p.ins s.pc).bN
  rw [stepS_B]
  have hA := (maskS_range p.w (valS p.w s (atS p.ins s.pc).aR (atS p.ins s.pc).aN + valS p.w s (atS p.ins s.pc).bR (atS p.ins s.pc).bN)).1
  generalize maskS p.w (valS p.w s (atS p.ins s.pc).aR (atS p.ins s.pc).aN + valS p.w s (atS p.ins s.pc).bR (atS p.ins s.pc).bN) = A at hA ⊢
  generalize valS p.w s (atS p.ins s.pc).aR (atS p.ins s.pc).aN = a at ha
  generalize valS p.w s (atS p.ins s.pc).bR (atS p.ins s.pc).bN = b at hb
  generalize atS p.ins s.pc = i at hi
  obtain ⟨h1, h2, h3, h4⟩ := hs
  have hm := fun v => setReg_mem' s i.d v
  have hv : 0 ≤ valueS p.w i a b (maskS p.w (s.reg i.d)) ∧ valueS p.w i a b (maskS p.w (s.reg i.d)) < 2 ^ p.w.toNat := by
    unfold valueS
    split
    · split
      · exact maskS_ok hp.w _
      · exact hb
    · exact doS_range hp.w _ _ _
  unfold stepB
  repeat' split
  all_goals try exact ⟨h1, h2, h3, h4⟩
  · exact ⟨setReg_reg h1 hi.d hv, by rw [(hm _).1]; exact h2, by rw [(hm _).1]; exact h3, by rw [(hm _).2]; exact h4⟩
  · have h0 : 0 ≤ rd s.mem A ∧ rd s.mem A < 2 ^ p.w.toNat := h2 _ (rd_mem _ _ hA (by omega))
    exact ⟨setReg_reg h1 hi.d h0, by rw [(hm _).1]; exact h2, by rw [(hm _).1]; exact h3, by rw [(hm _).2]; exact h4⟩
  · refine ⟨h1, ?_, by simpa using h3, h4⟩
    intro x hx
    rcases List.mem_or_eq_of_mem_set hx with h | h
    · exact h2 x h
    · rw [h]; exact maskS_ok hp.w _
  · exact ⟨h1, h2, h3, by simp only [List.length_append, List.length_singleton]; omega⟩
  · exact ⟨h1, h2, h3, by simp only [List.length_dropLast]; omega⟩
end Go.Proofs.Ytclabjihjopclaa.Ax
