/- Several texts in one, in their order. -/
import Derived.Test.YtmhfhobaicklmaaPart1
import Derived.Test.YtmhfhobaicklmaaAx24
import Derived.Test.YtmhfhobaicklmaaAxZ
section
/- One by one: seqm.Step. -/
namespace Go.Proofs.Ytmhfhobaicklmaa.Ax
open Go.RowKit
set_option linter.unusedVariables false
set_option linter.unusedSimpArgs false
def rstep (x : Sta × List Obs × Int) : RR := .tup [.inr (x.1.cells.map .d), .inl (.d (.sl (rowsOn x.2.1))), .inl (.d (.int .i64 x.2.2))]
def rdPS : List A → Prg × Sta
  | [.agg l, .agg s] => (Prg.of l, Sta.of s)
  | _ => default
def rdSI : List A → Sta × Int
  | [.agg s, .c (.int _ i)] => (Sta.of s, i)
  | _ => default
def jumpS (s : Sta) (to : Int) : Sta × List Obs × Int := ({ s with pc := to }, [⟨3, to⟩], 0)
def c_sJump : FT (Sta × Int) := ⟨68, fun x => [as_ x.1, ai x.2], rdSI, fun _ => True, fun x => rstep (jumpS x.1 x.2), true, fun x => by simp [as_, ai, rdSI]⟩
noncomputable def a_sJump : FnA := (fnA Try.prog Try.f68 2 []).getD ⟨0, .skip, [], []⟩
def s_sJump : Sp := spT []
theorem s_sJump_sound : s_sJump.sound Try.prog := spT_sound fun e he => by cases he
set_option maxRecDepth 100000 in
theorem t_sJump (s : Sta) (i : Int) : a_sJump.start s_sJump 400 [as_ s, ai i] =
(VC.ret (some (RR.tup [Sum.inr [Rc.d (D.int IntKind.i64 s.r0), Rc.d (D.int IntKind.i64 s.r1), Rc.d (D.int IntKind.i64 s.r2), Rc.d (D.int IntKind.i64 s.r3), Rc.d (D.sl (rowsOn s.mem)), Rc.d (D.sl (rowsOn s.stack)), Rc.d (D.int IntKind.i64 i)], Sum.inl (Rc.new (2 : Nat) [[D.int IntKind.i64 (3 : Int), D.int IntKind.i64 i]]), Sum.inl (Rc.d (D.int IntKind.i64 (0 : Int)))]))) := by kernel_rfl
theorem c_sJump_good : c_sJump.fe.Good Try.prog := by
  refine FT.good c_sJump ⟨Try.f68, by kernel_rfl, by decide +kernel, by kernel_rfl⟩ (fun ⟨s, i⟩ => by first | rfl | simp [c_sJump, rrRef, rins, rnum, rby, rss, rnewI, rnewE, rstab, rplaces, ri, rb, rib, rstep, Sta.fresh]) fun ⟨s, i⟩ hp => ?_
  refine acalls_leD s_sJump_sound (fn := Try.f68) (a := a_sJump) (nargs := 2) (tbl := []) (by kernel_rfl) (by kernel_rfl) rfl (m := 400) ?_
  show VC.holds _ _ _ (a_sJump.start s_sJump 400 [as_ s, ai i])
  rw [t_sJump]
  try simp only [asRows_sl, asInt_int, asBool_bool, asStr_str, listOf_rowsOn, List.drop_zero, Prg.eta, Sta.eta, rowsOn_length, getD_drop, Nat.reduceAdd, rd_int, rd_PMem_name, rd_PMem_secret, rd_PMem_n, rd_PLabel_name, rd_PLabel_at_, rd_Ins_kind, rd_Ins_op, rd_Ins_d, rd_Ins_aR, rd_Ins_aN, rd_Ins_bR, rd_Ins_bN, rd_Ins_name, rd_Ins_target, rd_Ent_pc, rd_Ent_val, rd_Ent_addr, rd_Ent_fro, rd_Ent_next, rd_Ent_done, rd_Ent_known, rd_Ent_fault, rd_Place_reg, rd_Place_n, rd_Place_secret, rd_Obs_kind, rd_Obs_at_, rd_Dir_kind, rd_Dir_n, Prg.of_cells, Sta.of_cells]
  try simp only [c_sJump] at hp
  repeat' first
    | refine br_not ?_
    | refine br_dec (fun _ => ?_) (fun _ => ?_)
    | refine br_beq (fun _ => ?_) (fun _ => ?_)
    | refine br_bne (fun _ => ?_) (fun _ => ?_)
    | refine br_holds (fun _ => ?_) (fun _ => ?_)
    | refine ⟨PreOk.mk ?_ rfl, ?_⟩
    | refine ⟨idx_ok _ _ _ rfl (by omega) (by omega), ?_⟩
    | refine ⟨okSh_ok _ _ _ (fun _ => rfl) (by omega) (by omega), ?_⟩
    | refine ⟨okSh_okD _ _ _ _ (fun _ => rfl) (by omega) (by omega), ?_⟩
    | refine ⟨aload_ok _ _ rfl (fun _ => rfl) (by omega) (by omega), ?_⟩
    | refine ⟨aload_okD _ _ _ rfl (fun _ => rfl) (by omega) (by omega), ?_⟩
    | refine ⟨astore_ok (by assumption) rfl (by omega) (by omega) (by decide), ?_⟩
    | refine ⟨app_ok (by assumption) rfl rfl (by simp only [List.length_cons, List.length_nil]; omega), ?_⟩
    | refine need_holds ?_ fun _ => ?_
    | refine all_holds fun y hy => ?_
    | refine ret_leD ?_
  exact RR.le_refl _
noncomputable def v_sJump : Sta × Int → Sta × List Obs × Int := fun x => jumpS x.1 x.2
noncomputable def sh_sJump : Sta × List Obs × Int → RR := fun x => rstep x
theorem e_sJump (x : Sta × Int) : sh_sJump (v_sJump x) = c_sJump.ans x := rfl
def backS (s was : Sta) : Sta × List Obs × Int := if s.stack.length = 0 then (was, [], 2) else jumpS { s with stack := s.stack.dropLast } (rd s.stack (s.stack.length - 1))
def c_sBack : FT (Sta × Sta) := ⟨70, fun x => [as_ x.1, as_ x.2], rdSS, fun x => SmallS x.1, fun x => rstep (backS x.1 x.2), true, fun x => by simp [as_, rdSS]⟩
noncomputable def a_sBack : FnA := (fnA Try.prog Try.f70 2 []).getD ⟨0, .skip, [], []⟩
noncomputable def s_sBack : Sp := spT [c_sJump.gfe v_sJump sh_sJump e_sJump]
theorem s_sBack_sound : s_sBack.sound Try.prog := spT_sound fun e he => by
  simp only [List.mem_cons, List.not_mem_nil, or_false] at he
  rcases he with rfl
  · exact FT.gfe_good c_sJump_good
set_option maxRecDepth 100000 in
theorem t_sBack (s t : Sta) : a_sBack.start s_sBack 400 [as_ s, as_ t] =
(VC.br ((↑(List.length (rowsOn s.stack)) : Int) == (0 : Int))
 (VC.ret (some (RR.tup [Sum.inr [Rc.d (D.int IntKind.i64 t.r0), Rc.d (D.int IntKind.i64 t.r1), Rc.d (D.int IntKind.i64 t.r2), Rc.d (D.int IntKind.i64 t.r3), Rc.d (D.sl (rowsOn t.mem)), Rc.d (D.sl (rowsOn t.stack)), Rc.d (D.int IntKind.i64 t.pc)], Sum.inl Rc.nil, Sum.inl (Rc.d (D.int IntKind.i64 (2 : Int)))])))
 (VC.need ((0 : Int) ≤ IntKind.wrap IntKind.i64 ((↑(List.length (rowsOn s.stack)) : Int) - (1 : Int)) ∧ IntKind.wrap IntKind.i64 ((↑(List.length (rowsOn s.stack)) : Int) - (1 : Int)) < (↑(List.length (rowsOn s.stack)) : Int) ∧ List.length (rowAt (rowsOn s.stack) (Int.toNat (IntKind.wrap IntKind.i64 ((↑(List.length (rowsOn s.stack)) : Int) - (1 : Int))))) = (1 : Nat))
 (VC.need (okSh [Kd.int IntKind.i64] (rowAt (rowsOn s.stack) (Int.toNat (IntKind.wrap IntKind.i64 ((↑(List.length (rowsOn s.stack)) : Int) - (1 : Int))))))
 (VC.need ((List.all (rowsOn s.stack) fun r ↦ List.length r == (1 : Nat)) = true ∧ (0 : Int) ≤ (0 : Int) ∧ (0 : Int) ≤ IntKind.wrap IntKind.i64 ((↑(List.length (rowsOn s.stack)) : Int) - (1 : Int)) ∧ IntKind.wrap IntKind.i64 ((↑(List.length (rowsOn s.stack)) : Int) - (1 : Int)) ≤ (↑(List.length (rowsOn s.stack)) : Int))
 (VC.need (PreOk c_sJump (Sta.of [D.int IntKind.i64 s.r0, D.int IntKind.i64 s.r1, D.int IntKind.i64 s.r2, D.int IntKind.i64 s.r3, D.sl (rowsOn s.mem), D.sl (List.drop (0 : Nat) (List.take (Int.toNat (IntKind.wrap IntKind.i64 ((↑(List.length (rowsOn s.stack)) : Int) - (1 : Int)))) (rowsOn s.stack))), D.int IntKind.i64 s.pc], asInt (List.getD (rowAt (rowsOn s.stack) (Int.toNat (IntKind.wrap IntKind.i64 ((↑(List.length (rowsOn s.stack)) : Int) - (1 : Int))))) (0 : Nat) D.nilp)) [A.agg [D.int IntKind.i64 s.r0, D.int IntKind.i64 s.r1, D.int IntKind.i64 s.r2, D.int IntKind.i64 s.r3, D.sl (rowsOn s.mem), D.sl (List.drop (0 : Nat) (List.take (Int.toNat (IntKind.wrap IntKind.i64 ((↑(List.length (rowsOn s.stack)) : Int) - (1 : Int)))) (rowsOn s.stack))), D.int IntKind.i64 s.pc], A.c (D.int IntKind.i64 (asInt (List.getD (rowAt (rowsOn s.stack) (Int.toNat (IntKind.wrap IntKind.i64 ((↑(List.length (rowsOn s.stack)) : Int) - (1 : Int))))) (0 : Nat) D.nilp)))])
 (VC.all (({ r0 := s.r0, r1 := s.r1, r2 := s.r2, r3 := s.r3, mem := listOf Int (rowsOn s.mem), stack := listOf Int (List.drop (0 : Nat) (List.take (Int.toNat (IntKind.wrap IntKind.i64 ((↑(List.length (rowsOn s.stack)) : Int) - (1 : Int)))) (rowsOn s.stack))), pc := asInt (List.getD (rowAt (rowsOn s.stack) (Int.toNat (IntKind.wrap IntKind.i64 ((↑(List.length (rowsOn s.stack)) : Int) - (1 : Int))))) (0 : Nat) D.nilp) }, [{ kind := (3 : Int), at_ := asInt (List.getD (rowAt (rowsOn s.stack) (Int.toNat (IntKind.wrap IntKind.i64 ((↑(List.length (rowsOn s.stack)) : Int) - (1 : Int))))) (0 : Nat) D.nilp) }], (0 : Int))) fun (y2 : Sta × List Obs × Int) =>
 (VC.ret (some (RR.tup [Sum.inr [Rc.d (D.int IntKind.i64 y2.fst.r0), Rc.d (D.int IntKind.i64 y2.fst.r1), Rc.d (D.int IntKind.i64 y2.fst.r2), Rc.d (D.int IntKind.i64 y2.fst.r3), Rc.d (D.sl (rowsOn y2.fst.mem)), Rc.d (D.sl (rowsOn y2.fst.stack)), Rc.d (D.int IntKind.i64 y2.fst.pc)], Sum.inl (Rc.d (D.sl (rowsOn y2.snd.fst))), Sum.inl (Rc.d (D.int IntKind.i64 y2.snd.snd))]))))))))) := by kernel_rfl
theorem c_sBack_good : c_sBack.fe.Good Try.prog := by
  refine FT.good c_sBack ⟨Try.f70, by kernel_rfl, by decide +kernel, by kernel_rfl⟩ (fun ⟨s, t⟩ => by first | rfl | simp [c_sBack, rrRef, rins, rnum, rby, rss, rnewI, rnewE, rstab, rplaces, ri, rb, rib, rstep, Sta.fresh]) fun ⟨s, t⟩ hp => ?_
  refine acalls_leD s_sBack_sound (fn := Try.f70) (a := a_sBack) (nargs := 2) (tbl := []) (by kernel_rfl) (by kernel_rfl) rfl (m := 400) ?_
  show VC.holds _ _ _ (a_sBack.start s_sBack 400 [as_ s, as_ t])
  rw [t_sBack]
  try simp only [asRows_sl, asInt_int, asBool_bool, asStr_str, listOf_rowsOn, List.drop_zero, Prg.eta, Sta.eta, rowsOn_length, getD_drop, Nat.reduceAdd, rd_int, rd_PMem_name, rd_PMem_secret, rd_PMem_n, rd_PLabel_name, rd_PLabel_at_, rd_Ins_kind, rd_Ins_op, rd_Ins_d, rd_Ins_aR, rd_Ins_aN, rd_Ins_bR, rd_Ins_bN, rd_Ins_name, rd_Ins_target, rd_Ent_pc, rd_Ent_val, rd_Ent_addr, rd_Ent_fro, rd_Ent_next, rd_Ent_done, rd_Ent_known, rd_Ent_fault, rd_Place_reg, rd_Place_n, rd_Place_secret, rd_Obs_kind, rd_Obs_at_, rd_Dir_kind, rd_Dir_n, Prg.of_cells, Sta.of_cells]
  try simp only [c_sBack] at hp
  obtain ⟨h1, h2⟩ := hp
  by_cases h0 : s.stack.length = 0
  · have e : c_sBack.ans (s, t) = rstep (t, [], 2) := congrArg rstep (if_pos h0)
    rw [e]
    repeat' first
      | refine br_not ?_
      | refine br_dec (fun _ => ?_) (fun _ => ?_)
      | refine br_beq (fun _ => ?_) (fun _ => ?_)
      | refine br_bne (fun _ => ?_) (fun _ => ?_)
      | refine br_holds (fun _ => ?_) (fun _ => ?_)
      | refine ⟨PreOk.mk ?_ rfl, ?_⟩
      | refine ⟨idx_ok _ _ _ rfl (by omega) (by omega), ?_⟩
      | refine ⟨okSh_ok _ _ _ (fun _ => rfl) (by omega) (by omega), ?_⟩
      | refine ⟨okSh_okD _ _ _ _ (fun _ => rfl) (by omega) (by omega), ?_⟩
      | refine ⟨aload_ok _ _ rfl (fun _ => rfl) (by omega) (by omega), ?_⟩
      | refine ⟨aload_okD _ _ _ rfl (fun _ => rfl) (by omega) (by omega), ?_⟩
      | refine ⟨astore_ok (by assumption) rfl (by omega) (by omega) (by decide), ?_⟩
      | refine ⟨app_ok (by assumption) rfl rfl (by simp only [List.length_cons, List.length_nil]; omega), ?_⟩
      | refine need_holds ?_ fun _ => ?_
      | refine all_holds fun y hy => ?_
      | refine ret_leD ?_
    all_goals try (exfalso; omega)
    all_goals exact RR.le_of_eq rfl
  · have e : c_sBack.ans (s, t) = rstep (jumpS { s with stack := s.stack.dropLast } (rd s.stack (s.stack.length - 1))) := congrArg rstep (if_neg h0)
    rw [e, wrap_small (s.stack.length - 1 : Int) (by omega) (by omega)]
    have et : List.take (Int.toNat ((s.stack.length : Int) - 1)) (rowsOn s.stack) = rowsOn s.stack.dropLast := by
      rw [show Int.toNat ((s.stack.length : Int) - 1) = s.stack.length - 1 by omega, List.dropLast_eq_take]
      unfold rowsOn
      rw [List.map_take]
    rw [et]
    have ec : (Sta.of [.int .i64 s.r0, .int .i64 s.r1, .int .i64 s.r2, .int .i64 s.r3, .sl (rowsOn s.mem), .sl (rowsOn s.stack.dropLast), .int .i64 s.pc]) = { s with stack := s.stack.dropLast } := by simp [Sta.of]
    rw [ec]
    repeat' first
      | refine br_not ?_
      | refine br_dec (fun _ => ?_) (fun _ => ?_)
      | refine br_beq (fun _ => ?_) (fun _ => ?_)
      | refine br_bne (fun _ => ?_) (fun _ => ?_)
      | refine br_holds (fun _ => ?_) (fun _ => ?_)
      | refine ⟨PreOk.mk ?_ rfl, ?_⟩
      | refine ⟨idx_ok _ _ _ rfl (by omega) (by omega), ?_⟩
      | refine ⟨okSh_ok _ _ _ (fun _ => rfl) (by omega) (by omega), ?_⟩
      | refine ⟨okSh_okD _ _ _ _ (fun _ => rfl) (by omega) (by omega), ?_⟩
      | refine ⟨aload_ok _ _ rfl (fun _ => rfl) (by omega) (by omega), ?_⟩
      | refine ⟨aload_okD _ _ _ rfl (fun _ => rfl) (by omega) (by omega), ?_⟩
      | refine ⟨astore_ok (by assumption) rfl (by omega) (by omega) (by decide), ?_⟩
      | refine ⟨app_ok (by assumption) rfl rfl (by simp only [List.length_cons, List.length_nil]; omega), ?_⟩
      | refine need_holds ?_ fun _ => ?_
      | refine all_holds fun y hy => ?_
      | refine ret_leD ?_
    all_goals try (exfalso; omega)
    all_goals try exact idx_ok _ _ _ rfl (by omega) (by omega)
    · exact ⟨all1 _, by omega, by omega, by omega⟩
    · exact trivial
    · subst_vars
      refine RR.le_of_eq ?_
      simp [RR.data, Rc.data, rstep, jumpS, Sta.cells]
noncomputable def v_sBack : Sta × Sta → Sta × List Obs × Int := fun x => backS x.1 x.2
noncomputable def sh_sBack : Sta × List Obs × Int → RR := fun x => rstep x
theorem e_sBack (x : Sta × Sta) : sh_sBack (v_sBack x) = c_sBack.ans x := rfl
/-- seqm.put and touch are run in their callers' places. -/
noncomputable def Z_t : Zo := mkZ Try.prog 200000 [(63, ⟨300000, fun _ => none, fun _ => none⟩)]
noncomputable def Z_step : Zo := mkZ Try.prog 0 [(63, ⟨100000, fun _ => none, fun _ => none⟩), (67, Z_t)]
theorem Z_step_ok : ZOK Try.prog 2 Z_step := zok_mk fun p hp => by
  simp only [List.mem_cons, List.not_mem_nil, or_false] at hp
  rcases hp with rfl | rfl
  · exact zok_none _ _ _
  · exact zok_mk fun p hp => by
      simp only [List.mem_cons, List.not_mem_nil, or_false] at hp
      subst hp
      exact zok_none _ _ _
noncomputable def v_aStill : Sta × Unit → Sta := fun x => x.1
noncomputable def sh_aStill : Sta → RR := fun s => .agg s.fresh
theorem e_aStill (x : Sta × Unit) : sh_aStill (v_aStill x) = c_aStill.ans x := rfl
noncomputable def a_step : FnA := (fnAZ Try.prog Z_step Try.f32 2 []).getD ⟨0, .skip, [], []⟩
noncomputable def s_step : Sp := spT [c_aStill.gfe v_aStill sh_aStill e_aStill, c_sAt.gfe v_sAt sh_sAt e_sAt, c_sVal.gfe v_sVal sh_sVal e_sVal, c_sReg.gfe v_sReg sh_sReg e_sReg, c_sValue.gfe v_sValue sh_sValue e_sValue, c_sAddr.gfe v_sAddr sh_sAddr e_sAddr, c_sWay.gfe v_sWay sh_sWay e_sWay, c_sJump.gfe v_sJump sh_sJump e_sJump, c_sBack.gfe v_sBack sh_sBack e_sBack]
theorem s_step_sound : s_step.sound Try.prog := spT_sound fun e he => by
  simp only [List.mem_cons, List.not_mem_nil, or_false] at he
  rcases he with rfl | rfl | rfl | rfl | rfl | rfl | rfl | rfl | rfl
  · exact FT.gfe_good c_aStill_good
  · exact FT.gfe_good c_sAt_good
  · exact FT.gfe_good c_sVal_good
  · exact FT.gfe_good c_sReg_good
  · exact FT.gfe_good c_sValue_good
  · exact FT.gfe_good c_sAddr_good
  · exact FT.gfe_good c_sWay_good
  · exact FT.gfe_good c_sJump_good
  · exact FT.gfe_good c_sBack_good
set_option maxRecDepth 100000 in
theorem t_step (p : Prg) (s : Sta) : a_step.start s_step 400 [ap p, as_ s] =
(VC.need (PreOk c_aStill (Sta.of (Sta.cells s), ()) [A.agg (Sta.cells s)])
(VC.all (v_aStill (Sta.of (Sta.cells s), ())) fun (y2 : Sta) =>
(VC.need (PreOk c_aStill (Sta.of (Sta.cells s), ()) [A.agg (Sta.cells s)])
(VC.all (v_aStill (Sta.of (Sta.cells s), ())) fun (y3 : Sta) =>
(VC.need (PreOk c_sAt (Prg.of (Prg.cells p), y3.pc) [A.agg (Prg.cells p), A.c (D.int IntKind.i64 y3.pc)])
(VC.all (v_sAt (Prg.of (Prg.cells p), y3.pc)) fun (y4 : Ins) =>
(VC.br (y4.kind == (1 : Int))
 (VC.need (PreOk c_sVal (Prg.of (Prg.cells p), Sta.of (Sta.cells y3), y4.aR, y4.aN) [A.agg (Prg.cells p), A.agg (Sta.cells y3), A.agg [D.bool y4.aR, D.int IntKind.i64 y4.aN]])
 (VC.all (v_sVal (Prg.of (Prg.cells p), Sta.of (Sta.cells y3), y4.aR, y4.aN)) fun (y5 : Int) =>
 (VC.need (PreOk c_sVal (Prg.of (Prg.cells p), Sta.of (Sta.cells y3), y4.bR, y4.bN) [A.agg (Prg.cells p), A.agg (Sta.cells y3), A.agg [D.bool y4.bR, D.int IntKind.i64 y4.bN]])
 (VC.all (v_sVal (Prg.of (Prg.cells p), Sta.of (Sta.cells y3), y4.bR, y4.bN)) fun (y6 : Int) =>
 (VC.need (PreOk c_sReg (Prg.of (Prg.cells p), Sta.of (Sta.cells y3), y4.d) [A.agg (Prg.cells p), A.agg (Sta.cells y3), A.c (D.int IntKind.i64 y4.d)])
 (VC.all (v_sReg (Prg.of (Prg.cells p), Sta.of (Sta.cells y3), y4.d)) fun (y7 : Int) =>
 (VC.need (PreOk c_sValue (Prg.of (Prg.cells p), Row.of [D.int IntKind.i64 y4.kind, D.int IntKind.i64 y4.op, D.int IntKind.i64 y4.d, D.bool y4.aR, D.int IntKind.i64 y4.aN, D.bool y4.bR, D.int IntKind.i64 y4.bN, D.str y4.name, D.int IntKind.i64 y4.target], y5, y6, y7) [A.agg (Prg.cells p), A.agg [D.int IntKind.i64 y4.kind, D.int IntKind.i64 y4.op, D.int IntKind.i64 y4.d, D.bool y4.aR, D.int IntKind.i64 y4.aN, D.bool y4.bR, D.int IntKind.i64 y4.bN, D.str y4.name, D.int IntKind.i64 y4.target], A.c (D.int IntKind.i64 y5), A.c (D.int IntKind.i64 y6), A.c (D.int IntKind.i64 y7)])
 (VC.all (v_sValue (Prg.of (Prg.cells p), Row.of [D.int IntKind.i64 y4.kind, D.int IntKind.i64 y4.op, D.int IntKind.i64 y4.d, D.bool y4.aR, D.int IntKind.i64 y4.aN, D.bool y4.bR, D.int IntKind.i64 y4.bN, D.str y4.name, D.int IntKind.i64 y4.target], y5, y6, y7)) fun (y8 : Int) =>
 (VC.br (decide ((0 : Int) ≤ y4.d))
  (VC.br (decide (y4.d < (4 : Int)))
   (VC.br (decide (y4.d = (0 : Int)))
    (VC.ret (some (RR.tup [Sum.inr [Rc.d (D.int IntKind.i64 y8), Rc.d (D.int IntKind.i64 y3.r1), Rc.d (D.int IntKind.i64 y3.r2), Rc.d (D.int IntKind.i64 y3.r3), Rc.new (1 : Nat) (rowsOn y3.mem), Rc.new (1 : Nat) (rowsOn y3.stack), Rc.d (D.int IntKind.i64 (IntKind.wrap IntKind.i64 (y3.pc + (1 : Int))))], Sum.inl Rc.nil, Sum.inl (Rc.d (D.int IntKind.i64 (0 : Int)))])))
    (VC.br (decide (y4.d = (1 : Int)))
     (VC.ret (some (RR.tup [Sum.inr [Rc.d (D.int IntKind.i64 y3.r0), Rc.d (D.int IntKind.i64 y8), Rc.d (D.int IntKind.i64 y3.r2), Rc.d (D.int IntKind.i64 y3.r3), Rc.new (1 : Nat) (rowsOn y3.mem), Rc.new (1 : Nat) (rowsOn y3.stack), Rc.d (D.int IntKind.i64 (IntKind.wrap IntKind.i64 (y3.pc + (1 : Int))))], Sum.inl Rc.nil, Sum.inl (Rc.d (D.int IntKind.i64 (0 : Int)))])))
     (VC.br (decide (y4.d = (2 : Int)))
      (VC.ret (some (RR.tup [Sum.inr [Rc.d (D.int IntKind.i64 y3.r0), Rc.d (D.int IntKind.i64 y3.r1), Rc.d (D.int IntKind.i64 y8), Rc.d (D.int IntKind.i64 y3.r3), Rc.new (1 : Nat) (rowsOn y3.mem), Rc.new (1 : Nat) (rowsOn y3.stack), Rc.d (D.int IntKind.i64 (IntKind.wrap IntKind.i64 (y3.pc + (1 : Int))))], Sum.inl Rc.nil, Sum.inl (Rc.d (D.int IntKind.i64 (0 : Int)))])))
      (VC.br (decide (y4.d = (3 : Int)))
       (VC.ret (some (RR.tup [Sum.inr [Rc.d (D.int IntKind.i64 y3.r0), Rc.d (D.int IntKind.i64 y3.r1), Rc.d (D.int IntKind.i64 y3.r2), Rc.d (D.int IntKind.i64 y8), Rc.new (1 : Nat) (rowsOn y3.mem), Rc.new (1 : Nat) (rowsOn y3.stack), Rc.d (D.int IntKind.i64 (IntKind.wrap IntKind.i64 (y3.pc + (1 : Int))))], Sum.inl Rc.nil, Sum.inl (Rc.d (D.int IntKind.i64 (0 : Int)))])))
       VC.ff))))
   (VC.ret (some (RR.tup [Sum.inr [Rc.d (D.int IntKind.i64 y3.r0), Rc.d (D.int IntKind.i64 y3.r1), Rc.d (D.int IntKind.i64 y3.r2), Rc.d (D.int IntKind.i64 y3.r3), Rc.new (1 : Nat) (rowsOn y3.mem), Rc.new (1 : Nat) (rowsOn y3.stack), Rc.d (D.int IntKind.i64 (IntKind.wrap IntKind.i64 (y3.pc + (1 : Int))))], Sum.inl Rc.nil, Sum.inl (Rc.d (D.int IntKind.i64 (0 : Int)))]))))
  (VC.ret (some (RR.tup [Sum.inr [Rc.d (D.int IntKind.i64 y3.r0), Rc.d (D.int IntKind.i64 y3.r1), Rc.d (D.int IntKind.i64 y3.r2), Rc.d (D.int IntKind.i64 y3.r3), Rc.new (1 : Nat) (rowsOn y3.mem), Rc.new (1 : Nat) (rowsOn y3.stack), Rc.d (D.int IntKind.i64 (IntKind.wrap IntKind.i64 (y3.pc + (1 : Int))))], Sum.inl Rc.nil, Sum.inl (Rc.d (D.int IntKind.i64 (0 : Int)))]))))))))))))
 (VC.br (y4.kind == (4 : Int))
  (VC.need (PreOk c_sVal (Prg.of (Prg.cells p), Sta.of (Sta.cells y3), y4.aR, y4.aN) [A.agg (Prg.cells p), A.agg (Sta.cells y3), A.agg [D.bool y4.aR, D.int IntKind.i64 y4.aN]])
  (VC.all (v_sVal (Prg.of (Prg.cells p), Sta.of (Sta.cells y3), y4.aR, y4.aN)) fun (y5 : Int) =>
  (VC.need (PreOk c_sVal (Prg.of (Prg.cells p), Sta.of (Sta.cells y3), y4.bR, y4.bN) [A.agg (Prg.cells p), A.agg (Sta.cells y3), A.agg [D.bool y4.bR, D.int IntKind.i64 y4.bN]])
  (VC.all (v_sVal (Prg.of (Prg.cells p), Sta.of (Sta.cells y3), y4.bR, y4.bN)) fun (y6 : Int) =>
  (VC.need (PreOk c_sReg (Prg.of (Prg.cells p), Sta.of (Sta.cells y3), y4.d) [A.agg (Prg.cells p), A.agg (Sta.cells y3), A.c (D.int IntKind.i64 y4.d)])
  (VC.all (v_sReg (Prg.of (Prg.cells p), Sta.of (Sta.cells y3), y4.d)) fun (y7 : Int) =>
  (VC.need (PreOk c_sValue (Prg.of (Prg.cells p), Row.of [D.int IntKind.i64 y4.kind, D.int IntKind.i64 y4.op, D.int IntKind.i64 y4.d, D.bool y4.aR, D.int IntKind.i64 y4.aN, D.bool y4.bR, D.int IntKind.i64 y4.bN, D.str y4.name, D.int IntKind.i64 y4.target], y5, y6, y7) [A.agg (Prg.cells p), A.agg [D.int IntKind.i64 y4.kind, D.int IntKind.i64 y4.op, D.int IntKind.i64 y4.d, D.bool y4.aR, D.int IntKind.i64 y4.aN, D.bool y4.bR, D.int IntKind.i64 y4.bN, D.str y4.name, D.int IntKind.i64 y4.target], A.c (D.int IntKind.i64 y5), A.c (D.int IntKind.i64 y6), A.c (D.int IntKind.i64 y7)])
  (VC.all (v_sValue (Prg.of (Prg.cells p), Row.of [D.int IntKind.i64 y4.kind, D.int IntKind.i64 y4.op, D.int IntKind.i64 y4.d, D.bool y4.aR, D.int IntKind.i64 y4.aN, D.bool y4.bR, D.int IntKind.i64 y4.bN, D.str y4.name, D.int IntKind.i64 y4.target], y5, y6, y7)) fun (y8 : Int) =>
  (VC.br (decide ((0 : Int) ≤ y4.d))
   (VC.br (decide (y4.d < (4 : Int)))
    (VC.br (decide (y4.d = (0 : Int)))
     (VC.ret (some (RR.tup [Sum.inr [Rc.d (D.int IntKind.i64 y8), Rc.d (D.int IntKind.i64 y3.r1), Rc.d (D.int IntKind.i64 y3.r2), Rc.d (D.int IntKind.i64 y3.r3), Rc.new (1 : Nat) (rowsOn y3.mem), Rc.new (1 : Nat) (rowsOn y3.stack), Rc.d (D.int IntKind.i64 (IntKind.wrap IntKind.i64 (y3.pc + (1 : Int))))], Sum.inl Rc.nil, Sum.inl (Rc.d (D.int IntKind.i64 (0 : Int)))])))
     (VC.br (decide (y4.d = (1 : Int)))
      (VC.ret (some (RR.tup [Sum.inr [Rc.d (D.int IntKind.i64 y3.r0), Rc.d (D.int IntKind.i64 y8), Rc.d (D.int IntKind.i64 y3.r2), Rc.d (D.int IntKind.i64 y3.r3), Rc.new (1 : Nat) (rowsOn y3.mem), Rc.new (1 : Nat) (rowsOn y3.stack), Rc.d (D.int IntKind.i64 (IntKind.wrap IntKind.i64 (y3.pc + (1 : Int))))], Sum.inl Rc.nil, Sum.inl (Rc.d (D.int IntKind.i64 (0 : Int)))])))
      (VC.br (decide (y4.d = (2 : Int)))
       (VC.ret (some (RR.tup [Sum.inr [Rc.d (D.int IntKind.i64 y3.r0), Rc.d (D.int IntKind.i64 y3.r1), Rc.d (D.int IntKind.i64 y8), Rc.d (D.int IntKind.i64 y3.r3), Rc.new (1 : Nat) (rowsOn y3.mem), Rc.new (1 : Nat) (rowsOn y3.stack), Rc.d (D.int IntKind.i64 (IntKind.wrap IntKind.i64 (y3.pc + (1 : Int))))], Sum.inl Rc.nil, Sum.inl (Rc.d (D.int IntKind.i64 (0 : Int)))])))
       (VC.br (decide (y4.d = (3 : Int)))
        (VC.ret (some (RR.tup [Sum.inr [Rc.d (D.int IntKind.i64 y3.r0), Rc.d (D.int IntKind.i64 y3.r1), Rc.d (D.int IntKind.i64 y3.r2), Rc.d (D.int IntKind.i64 y8), Rc.new (1 : Nat) (rowsOn y3.mem), Rc.new (1 : Nat) (rowsOn y3.stack), Rc.d (D.int IntKind.i64 (IntKind.wrap IntKind.i64 (y3.pc + (1 : Int))))], Sum.inl Rc.nil, Sum.inl (Rc.d (D.int IntKind.i64 (0 : Int)))])))
        VC.ff))))
    (VC.ret (some (RR.tup [Sum.inr [Rc.d (D.int IntKind.i64 y3.r0), Rc.d (D.int IntKind.i64 y3.r1), Rc.d (D.int IntKind.i64 y3.r2), Rc.d (D.int IntKind.i64 y3.r3), Rc.new (1 : Nat) (rowsOn y3.mem), Rc.new (1 : Nat) (rowsOn y3.stack), Rc.d (D.int IntKind.i64 (IntKind.wrap IntKind.i64 (y3.pc + (1 : Int))))], Sum.inl Rc.nil, Sum.inl (Rc.d (D.int IntKind.i64 (0 : Int)))]))))
   (VC.ret (some (RR.tup [Sum.inr [Rc.d (D.int IntKind.i64 y3.r0), Rc.d (D.int IntKind.i64 y3.r1), Rc.d (D.int IntKind.i64 y3.r2), Rc.d (D.int IntKind.i64 y3.r3), Rc.new (1 : Nat) (rowsOn y3.mem), Rc.new (1 : Nat) (rowsOn y3.stack), Rc.d (D.int IntKind.i64 (IntKind.wrap IntKind.i64 (y3.pc + (1 : Int))))], Sum.inl Rc.nil, Sum.inl (Rc.d (D.int IntKind.i64 (0 : Int)))]))))))))))))
  (VC.br (y4.kind == (2 : Int))
   (VC.need (PreOk c_sVal (Prg.of (Prg.cells p), Sta.of (Sta.cells y3), y4.aR, y4.aN) [A.agg (Prg.cells p), A.agg (Sta.cells y3), A.agg [D.bool y4.aR, D.int IntKind.i64 y4.aN]])
   (VC.all (v_sVal (Prg.of (Prg.cells p), Sta.of (Sta.cells y3), y4.aR, y4.aN)) fun (y5 : Int) =>
   (VC.need (PreOk c_sVal (Prg.of (Prg.cells p), Sta.of (Sta.cells y3), y4.bR, y4.bN) [A.agg (Prg.cells p), A.agg (Sta.cells y3), A.agg [D.bool y4.bR, D.int IntKind.i64 y4.bN]])
   (VC.all (v_sVal (Prg.of (Prg.cells p), Sta.of (Sta.cells y3), y4.bR, y4.bN)) fun (y6 : Int) =>
   (VC.need (PreOk c_sAddr (Prg.of (Prg.cells p), y5, y6) [A.agg (Prg.cells p), A.c (D.int IntKind.i64 y5), A.c (D.int IntKind.i64 y6)])
   (VC.all ((maskS p.w (y5 + y6), decide (maskS p.w (y5 + y6) < cellsS (listOf PMem (rowsOn p.mems))))) fun (y7 : Int × Bool) =>
   (VC.br (!y7.snd)
    (VC.ret (some (RR.tup [Sum.inr [Rc.d (D.int IntKind.i64 y2.r0), Rc.d (D.int IntKind.i64 y2.r1), Rc.d (D.int IntKind.i64 y2.r2), Rc.d (D.int IntKind.i64 y2.r3), Rc.new (1 : Nat) (rowsOn y2.mem), Rc.new (1 : Nat) (rowsOn y2.stack), Rc.d (D.int IntKind.i64 y2.pc)], Sum.inl Rc.nil, Sum.inl (Rc.d (D.int IntKind.i64 (2 : Int)))])))
    (VC.br (decide ((↑(List.length (rowsOn y3.mem)) : Int) ≤ y7.fst))
     (VC.ret (some (RR.tup [Sum.inr [Rc.d (D.int IntKind.i64 y2.r0), Rc.d (D.int IntKind.i64 y2.r1), Rc.d (D.int IntKind.i64 y2.r2), Rc.d (D.int IntKind.i64 y2.r3), Rc.new (1 : Nat) (rowsOn y2.mem), Rc.new (1 : Nat) (rowsOn y2.stack), Rc.d (D.int IntKind.i64 y2.pc)], Sum.inl Rc.nil, Sum.inl (Rc.d (D.int IntKind.i64 (2 : Int)))])))
     (VC.br (y4.kind == (2 : Int))
      (VC.need ((0 : Int) ≤ y7.fst ∧ y7.fst < (↑(List.length (rowsOn y3.mem)) : Int))
      (VC.need (Int.toNat y7.fst < List.length (rowsOn y3.mem) ∧ List.length (rowAt (rowsOn y3.mem) (Int.toNat y7.fst)) = (1 : Nat) ∧ okSh [Kd.int IntKind.i64] (List.drop (0 : Nat) (rowAt (rowsOn y3.mem) (Int.toNat y7.fst))))
      (VC.br (decide ((0 : Int) ≤ y4.d))
       (VC.br (decide (y4.d < (4 : Int)))
        (VC.br (decide (y4.d = (0 : Int)))
         (VC.ret (some (RR.tup [Sum.inr [Rc.d (D.int IntKind.i64 (asInt (List.getD (List.drop (0 : Nat) (rowAt (rowsOn y3.mem) (Int.toNat y7.fst))) (0 : Nat) D.nilp))), Rc.d (D.int IntKind.i64 y3.r1), Rc.d (D.int IntKind.i64 y3.r2), Rc.d (D.int IntKind.i64 y3.r3), Rc.new (1 : Nat) (rowsOn y3.mem), Rc.new (1 : Nat) (rowsOn y3.stack), Rc.d (D.int IntKind.i64 (IntKind.wrap IntKind.i64 (y3.pc + (1 : Int))))], Sum.inl (Rc.new (2 : Nat) [[D.int IntKind.i64 (1 : Int), D.int IntKind.i64 y7.fst]]), Sum.inl (Rc.d (D.int IntKind.i64 (0 : Int)))])))
         (VC.br (decide (y4.d = (1 : Int)))
          (VC.ret (some (RR.tup [Sum.inr [Rc.d (D.int IntKind.i64 y3.r0), Rc.d (D.int IntKind.i64 (asInt (List.getD (List.drop (0 : Nat) (rowAt (rowsOn y3.mem) (Int.toNat y7.fst))) (0 : Nat) D.nilp))), Rc.d (D.int IntKind.i64 y3.r2), Rc.d (D.int IntKind.i64 y3.r3), Rc.new (1 : Nat) (rowsOn y3.mem), Rc.new (1 : Nat) (rowsOn y3.stack), Rc.d (D.int IntKind.i64 (IntKind.wrap IntKind.i64 (y3.pc + (1 : Int))))], Sum.inl (Rc.new (2 : Nat) [[D.int IntKind.i64 (1 : Int), D.int IntKind.i64 y7.fst]]), Sum.inl (Rc.d (D.int IntKind.i64 (0 : Int)))])))
          (VC.br (decide (y4.d = (2 : Int)))
           (VC.ret (some (RR.tup [Sum.inr [Rc.d (D.int IntKind.i64 y3.r0), Rc.d (D.int IntKind.i64 y3.r1), Rc.d (D.int IntKind.i64 (asInt (List.getD (List.drop (0 : Nat) (rowAt (rowsOn y3.mem) (Int.toNat y7.fst))) (0 : Nat) D.nilp))), Rc.d (D.int IntKind.i64 y3.r3), Rc.new (1 : Nat) (rowsOn y3.mem), Rc.new (1 : Nat) (rowsOn y3.stack), Rc.d (D.int IntKind.i64 (IntKind.wrap IntKind.i64 (y3.pc + (1 : Int))))], Sum.inl (Rc.new (2 : Nat) [[D.int IntKind.i64 (1 : Int), D.int IntKind.i64 y7.fst]]), Sum.inl (Rc.d (D.int IntKind.i64 (0 : Int)))])))
           (VC.br (decide (y4.d = (3 : Int)))
            (VC.ret (some (RR.tup [Sum.inr [Rc.d (D.int IntKind.i64 y3.r0), Rc.d (D.int IntKind.i64 y3.r1), Rc.d (D.int IntKind.i64 y3.r2), Rc.d (D.int IntKind.i64 (asInt (List.getD (List.drop (0 : Nat) (rowAt (rowsOn y3.mem) (Int.toNat y7.fst))) (0 : Nat) D.nilp))), Rc.new (1 : Nat) (rowsOn y3.mem), Rc.new (1 : Nat) (rowsOn y3.stack), Rc.d (D.int IntKind.i64 (IntKind.wrap IntKind.i64 (y3.pc + (1 : Int))))], Sum.inl (Rc.new (2 : Nat) [[D.int IntKind.i64 (1 : Int), D.int IntKind.i64 y7.fst]]), Sum.inl (Rc.d (D.int IntKind.i64 (0 : Int)))])))
            VC.ff))))
        (VC.ret (some (RR.tup [Sum.inr [Rc.d (D.int IntKind.i64 y3.r0), Rc.d (D.int IntKind.i64 y3.r1), Rc.d (D.int IntKind.i64 y3.r2), Rc.d (D.int IntKind.i64 y3.r3), Rc.new (1 : Nat) (rowsOn y3.mem), Rc.new (1 : Nat) (rowsOn y3.stack), Rc.d (D.int IntKind.i64 (IntKind.wrap IntKind.i64 (y3.pc + (1 : Int))))], Sum.inl (Rc.new (2 : Nat) [[D.int IntKind.i64 (1 : Int), D.int IntKind.i64 y7.fst]]), Sum.inl (Rc.d (D.int IntKind.i64 (0 : Int)))]))))
       (VC.ret (some (RR.tup [Sum.inr [Rc.d (D.int IntKind.i64 y3.r0), Rc.d (D.int IntKind.i64 y3.r1), Rc.d (D.int IntKind.i64 y3.r2), Rc.d (D.int IntKind.i64 y3.r3), Rc.new (1 : Nat) (rowsOn y3.mem), Rc.new (1 : Nat) (rowsOn y3.stack), Rc.d (D.int IntKind.i64 (IntKind.wrap IntKind.i64 (y3.pc + (1 : Int))))], Sum.inl (Rc.new (2 : Nat) [[D.int IntKind.i64 (1 : Int), D.int IntKind.i64 y7.fst]]), Sum.inl (Rc.d (D.int IntKind.i64 (0 : Int)))]))))))
      (VC.need (PreOk c_sReg (Prg.of (Prg.cells p), Sta.of [D.int IntKind.i64 y3.r0, D.int IntKind.i64 y3.r1, D.int IntKind.i64 y3.r2, D.int IntKind.i64 y3.r3, D.sl (rowsOn y3.mem), D.sl (rowsOn y3.stack), D.int IntKind.i64 (IntKind.wrap IntKind.i64 (y3.pc + (1 : Int)))], y4.d) [A.agg (Prg.cells p), A.agg [D.int IntKind.i64 y3.r0, D.int IntKind.i64 y3.r1, D.int IntKind.i64 y3.r2, D.int IntKind.i64 y3.r3, D.sl (rowsOn y3.mem), D.sl (rowsOn y3.stack), D.int IntKind.i64 (IntKind.wrap IntKind.i64 (y3.pc + (1 : Int)))], A.c (D.int IntKind.i64 y4.d)])
      (VC.all (v_sReg (Prg.of (Prg.cells p), Sta.of [D.int IntKind.i64 y3.r0, D.int IntKind.i64 y3.r1, D.int IntKind.i64 y3.r2, D.int IntKind.i64 y3.r3, D.sl (rowsOn y3.mem), D.sl (rowsOn y3.stack), D.int IntKind.i64 (IntKind.wrap IntKind.i64 (y3.pc + (1 : Int)))], y4.d)) fun (y8 : Int) =>
      (VC.need ((0 : Int) ≤ y7.fst ∧ y7.fst < (↑(List.length (rowsOn y3.mem)) : Int))
      (VC.need (Int.toNat y7.fst < List.length (rowsOn y3.mem) ∧ List.length (rowAt (rowsOn y3.mem) (Int.toNat y7.fst)) = (1 : Nat) ∧ (1 : Nat) ≤ (1 : Nat))
      (VC.ret (some (RR.tup [Sum.inr [Rc.d (D.int IntKind.i64 y3.r0), Rc.d (D.int IntKind.i64 y3.r1), Rc.d (D.int IntKind.i64 y3.r2), Rc.d (D.int IntKind.i64 y3.r3), Rc.new (1 : Nat) (List.set (rowsOn y3.mem) (Int.toNat y7.fst) (splice (rowAt (rowsOn y3.mem) (Int.toNat y7.fst)) (0 : Nat) [D.int IntKind.i64 y8])), Rc.new (1 : Nat) (rowsOn y3.stack), Rc.d (D.int IntKind.i64 (IntKind.wrap IntKind.i64 (y3.pc + (1 : Int))))], Sum.inl (Rc.new (2 : Nat) [[D.int IntKind.i64 (2 : Int), D.int IntKind.i64 y7.fst]]), Sum.inl (Rc.d (D.int IntKind.i64 (0 : Int)))]))))))))))))))))
   (VC.br (y4.kind == (3 : Int))
    (VC.need (PreOk c_sVal (Prg.of (Prg.cells p), Sta.of (Sta.cells y3), y4.aR, y4.aN) [A.agg (Prg.cells p), A.agg (Sta.cells y3), A.agg [D.bool y4.aR, D.int IntKind.i64 y4.aN]])
    (VC.all (v_sVal (Prg.of (Prg.cells p), Sta.of (Sta.cells y3), y4.aR, y4.aN)) fun (y5 : Int) =>
    (VC.need (PreOk c_sVal (Prg.of (Prg.cells p), Sta.of (Sta.cells y3), y4.bR, y4.bN) [A.agg (Prg.cells p), A.agg (Sta.cells y3), A.agg [D.bool y4.bR, D.int IntKind.i64 y4.bN]])
    (VC.all (v_sVal (Prg.of (Prg.cells p), Sta.of (Sta.cells y3), y4.bR, y4.bN)) fun (y6 : Int) =>
    (VC.need (PreOk c_sAddr (Prg.of (Prg.cells p), y5, y6) [A.agg (Prg.cells p), A.c (D.int IntKind.i64 y5), A.c (D.int IntKind.i64 y6)])
    (VC.all ((maskS p.w (y5 + y6), decide (maskS p.w (y5 + y6) < cellsS (listOf PMem (rowsOn p.mems))))) fun (y7 : Int × Bool) =>
    (VC.br (!y7.snd)
     (VC.ret (some (RR.tup [Sum.inr [Rc.d (D.int IntKind.i64 y2.r0), Rc.d (D.int IntKind.i64 y2.r1), Rc.d (D.int IntKind.i64 y2.r2), Rc.d (D.int IntKind.i64 y2.r3), Rc.new (1 : Nat) (rowsOn y2.mem), Rc.new (1 : Nat) (rowsOn y2.stack), Rc.d (D.int IntKind.i64 y2.pc)], Sum.inl Rc.nil, Sum.inl (Rc.d (D.int IntKind.i64 (2 : Int)))])))
     (VC.br (decide ((↑(List.length (rowsOn y3.mem)) : Int) ≤ y7.fst))
      (VC.ret (some (RR.tup [Sum.inr [Rc.d (D.int IntKind.i64 y2.r0), Rc.d (D.int IntKind.i64 y2.r1), Rc.d (D.int IntKind.i64 y2.r2), Rc.d (D.int IntKind.i64 y2.r3), Rc.new (1 : Nat) (rowsOn y2.mem), Rc.new (1 : Nat) (rowsOn y2.stack), Rc.d (D.int IntKind.i64 y2.pc)], Sum.inl Rc.nil, Sum.inl (Rc.d (D.int IntKind.i64 (2 : Int)))])))
      (VC.br (y4.kind == (2 : Int))
       (VC.need ((0 : Int) ≤ y7.fst ∧ y7.fst < (↑(List.length (rowsOn y3.mem)) : Int))
       (VC.need (Int.toNat y7.fst < List.length (rowsOn y3.mem) ∧ List.length (rowAt (rowsOn y3.mem) (Int.toNat y7.fst)) = (1 : Nat) ∧ okSh [Kd.int IntKind.i64] (List.drop (0 : Nat) (rowAt (rowsOn y3.mem) (Int.toNat y7.fst))))
       (VC.br (decide ((0 : Int) ≤ y4.d))
        (VC.br (decide (y4.d < (4 : Int)))
         (VC.br (decide (y4.d = (0 : Int)))
          (VC.ret (some (RR.tup [Sum.inr [Rc.d (D.int IntKind.i64 (asInt (List.getD (List.drop (0 : Nat) (rowAt (rowsOn y3.mem) (Int.toNat y7.fst))) (0 : Nat) D.nilp))), Rc.d (D.int IntKind.i64 y3.r1), Rc.d (D.int IntKind.i64 y3.r2), Rc.d (D.int IntKind.i64 y3.r3), Rc.new (1 : Nat) (rowsOn y3.mem), Rc.new (1 : Nat) (rowsOn y3.stack), Rc.d (D.int IntKind.i64 (IntKind.wrap IntKind.i64 (y3.pc + (1 : Int))))], Sum.inl (Rc.new (2 : Nat) [[D.int IntKind.i64 (1 : Int), D.int IntKind.i64 y7.fst]]), Sum.inl (Rc.d (D.int IntKind.i64 (0 : Int)))])))
          (VC.br (decide (y4.d = (1 : Int)))
           (VC.ret (some (RR.tup [Sum.inr [Rc.d (D.int IntKind.i64 y3.r0), Rc.d (D.int IntKind.i64 (asInt (List.getD (List.drop (0 : Nat) (rowAt (rowsOn y3.mem) (Int.toNat y7.fst))) (0 : Nat) D.nilp))), Rc.d (D.int IntKind.i64 y3.r2), Rc.d (D.int IntKind.i64 y3.r3), Rc.new (1 : Nat) (rowsOn y3.mem), Rc.new (1 : Nat) (rowsOn y3.stack), Rc.d (D.int IntKind.i64 (IntKind.wrap IntKind.i64 (y3.pc + (1 : Int))))], Sum.inl (Rc.new (2 : Nat) [[D.int IntKind.i64 (1 : Int), D.int IntKind.i64 y7.fst]]), Sum.inl (Rc.d (D.int IntKind.i64 (0 : Int)))])))
           (VC.br (decide (y4.d = (2 : Int)))
            (VC.ret (some (RR.tup [Sum.inr [Rc.d (D.int IntKind.i64 y3.r0), Rc.d (D.int IntKind.i64 y3.r1), Rc.d (D.int IntKind.i64 (asInt (List.getD (List.drop (0 : Nat) (rowAt (rowsOn y3.mem) (Int.toNat y7.fst))) (0 : Nat) D.nilp))), Rc.d (D.int IntKind.i64 y3.r3), Rc.new (1 : Nat) (rowsOn y3.mem), Rc.new (1 : Nat) (rowsOn y3.stack), Rc.d (D.int IntKind.i64 (IntKind.wrap IntKind.i64 (y3.pc + (1 : Int))))], Sum.inl (Rc.new (2 : Nat) [[D.int IntKind.i64 (1 : Int), D.int IntKind.i64 y7.fst]]), Sum.inl (Rc.d (D.int IntKind.i64 (0 : Int)))])))
            (VC.br (decide (y4.d = (3 : Int)))
             (VC.ret (some (RR.tup [Sum.inr [Rc.d (D.int IntKind.i64 y3.r0), Rc.d (D.int IntKind.i64 y3.r1), Rc.d (D.int IntKind.i64 y3.r2), Rc.d (D.int IntKind.i64 (asInt (List.getD (List.drop (0 : Nat) (rowAt (rowsOn y3.mem) (Int.toNat y7.fst))) (0 : Nat) D.nilp))), Rc.new (1 : Nat) (rowsOn y3.mem), Rc.new (1 : Nat) (rowsOn y3.stack), Rc.d (D.int IntKind.i64 (IntKind.wrap IntKind.i64 (y3.pc + (1 : Int))))], Sum.inl (Rc.new (2 : Nat) [[D.int IntKind.i64 (1 : Int), D.int IntKind.i64 y7.fst]]), Sum.inl (Rc.d (D.int IntKind.i64 (0 : Int)))])))
             VC.ff))))
         (VC.ret (some (RR.tup [Sum.inr [Rc.d (D.int IntKind.i64 y3.r0), Rc.d (D.int IntKind.i64 y3.r1), Rc.d (D.int IntKind.i64 y3.r2), Rc.d (D.int IntKind.i64 y3.r3), Rc.new (1 : Nat) (rowsOn y3.mem), Rc.new (1 : Nat) (rowsOn y3.stack), Rc.d (D.int IntKind.i64 (IntKind.wrap IntKind.i64 (y3.pc + (1 : Int))))], Sum.inl (Rc.new (2 : Nat) [[D.int IntKind.i64 (1 : Int), D.int IntKind.i64 y7.fst]]), Sum.inl (Rc.d (D.int IntKind.i64 (0 : Int)))]))))
        (VC.ret (some (RR.tup [Sum.inr [Rc.d (D.int IntKind.i64 y3.r0), Rc.d (D.int IntKind.i64 y3.r1), Rc.d (D.int IntKind.i64 y3.r2), Rc.d (D.int IntKind.i64 y3.r3), Rc.new (1 : Nat) (rowsOn y3.mem), Rc.new (1 : Nat) (rowsOn y3.stack), Rc.d (D.int IntKind.i64 (IntKind.wrap IntKind.i64 (y3.pc + (1 : Int))))], Sum.inl (Rc.new (2 : Nat) [[D.int IntKind.i64 (1 : Int), D.int IntKind.i64 y7.fst]]), Sum.inl (Rc.d (D.int IntKind.i64 (0 : Int)))]))))))
       (VC.need (PreOk c_sReg (Prg.of (Prg.cells p), Sta.of [D.int IntKind.i64 y3.r0, D.int IntKind.i64 y3.r1, D.int IntKind.i64 y3.r2, D.int IntKind.i64 y3.r3, D.sl (rowsOn y3.mem), D.sl (rowsOn y3.stack), D.int IntKind.i64 (IntKind.wrap IntKind.i64 (y3.pc + (1 : Int)))], y4.d) [A.agg (Prg.cells p), A.agg [D.int IntKind.i64 y3.r0, D.int IntKind.i64 y3.r1, D.int IntKind.i64 y3.r2, D.int IntKind.i64 y3.r3, D.sl (rowsOn y3.mem), D.sl (rowsOn y3.stack), D.int IntKind.i64 (IntKind.wrap IntKind.i64 (y3.pc + (1 : Int)))], A.c (D.int IntKind.i64 y4.d)])
       (VC.all (v_sReg (Prg.of (Prg.cells p), Sta.of [D.int IntKind.i64 y3.r0, D.int IntKind.i64 y3.r1, D.int IntKind.i64 y3.r2, D.int IntKind.i64 y3.r3, D.sl (rowsOn y3.mem), D.sl (rowsOn y3.stack), D.int IntKind.i64 (IntKind.wrap IntKind.i64 (y3.pc + (1 : Int)))], y4.d)) fun (y8 : Int) =>
       (VC.need ((0 : Int) ≤ y7.fst ∧ y7.fst < (↑(List.length (rowsOn y3.mem)) : Int))
       (VC.need (Int.toNat y7.fst < List.length (rowsOn y3.mem) ∧ List.length (rowAt (rowsOn y3.mem) (Int.toNat y7.fst)) = (1 : Nat) ∧ (1 : Nat) ≤ (1 : Nat))
       (VC.ret (some (RR.tup [Sum.inr [Rc.d (D.int IntKind.i64 y3.r0), Rc.d (D.int IntKind.i64 y3.r1), Rc.d (D.int IntKind.i64 y3.r2), Rc.d (D.int IntKind.i64 y3.r3), Rc.new (1 : Nat) (List.set (rowsOn y3.mem) (Int.toNat y7.fst) (splice (rowAt (rowsOn y3.mem) (Int.toNat y7.fst)) (0 : Nat) [D.int IntKind.i64 y8])), Rc.new (1 : Nat) (rowsOn y3.stack), Rc.d (D.int IntKind.i64 (IntKind.wrap IntKind.i64 (y3.pc + (1 : Int))))], Sum.inl (Rc.new (2 : Nat) [[D.int IntKind.i64 (2 : Int), D.int IntKind.i64 y7.fst]]), Sum.inl (Rc.d (D.int IntKind.i64 (0 : Int)))]))))))))))))))))
    (VC.br (y4.kind == (5 : Int))
     (VC.need (PreOk c_sVal (Prg.of (Prg.cells p), Sta.of (Sta.cells y3), y4.aR, y4.aN) [A.agg (Prg.cells p), A.agg (Sta.cells y3), A.agg [D.bool y4.aR, D.int IntKind.i64 y4.aN]])
     (VC.all (v_sVal (Prg.of (Prg.cells p), Sta.of (Sta.cells y3), y4.aR, y4.aN)) fun (y5 : Int) =>
     (VC.need (PreOk c_sVal (Prg.of (Prg.cells p), Sta.of (Sta.cells y3), y4.bR, y4.bN) [A.agg (Prg.cells p), A.agg (Sta.cells y3), A.agg [D.bool y4.bR, D.int IntKind.i64 y4.bN]])
     (VC.all (v_sVal (Prg.of (Prg.cells p), Sta.of (Sta.cells y3), y4.bR, y4.bN)) fun (y6 : Int) =>
     (VC.need (PreOk c_sWay (Prg.of (Prg.cells p), Row.of [D.int IntKind.i64 y4.kind, D.int IntKind.i64 y4.op, D.int IntKind.i64 y4.d, D.bool y4.aR, D.int IntKind.i64 y4.aN, D.bool y4.bR, D.int IntKind.i64 y4.bN, D.str y4.name, D.int IntKind.i64 y4.target], y3.pc, y5, y6) [A.agg (Prg.cells p), A.agg [D.int IntKind.i64 y4.kind, D.int IntKind.i64 y4.op, D.int IntKind.i64 y4.d, D.bool y4.aR, D.int IntKind.i64 y4.aN, D.bool y4.bR, D.int IntKind.i64 y4.bN, D.str y4.name, D.int IntKind.i64 y4.target], A.c (D.int IntKind.i64 y3.pc), A.c (D.int IntKind.i64 y5), A.c (D.int IntKind.i64 y6)])
     (VC.all (v_sWay (Prg.of (Prg.cells p), Row.of [D.int IntKind.i64 y4.kind, D.int IntKind.i64 y4.op, D.int IntKind.i64 y4.d, D.bool y4.aR, D.int IntKind.i64 y4.aN, D.bool y4.bR, D.int IntKind.i64 y4.bN, D.str y4.name, D.int IntKind.i64 y4.target], y3.pc, y5, y6)) fun (y7 : Int) =>
     (VC.need (PreOk c_sJump (Sta.of (Sta.cells y3), y7) [A.agg (Sta.cells y3), A.c (D.int IntKind.i64 y7)])
     (VC.all (({ r0 := y3.r0, r1 := y3.r1, r2 := y3.r2, r3 := y3.r3, mem := listOf Int (rowsOn y3.mem), stack := listOf Int (rowsOn y3.stack), pc := y7 }, [{ kind := (3 : Int), at_ := y7 }], (0 : Int))) fun (y8 : Sta × List Obs × Int) =>
     (VC.ret (some (RR.tup [Sum.inr [Rc.d (D.int IntKind.i64 y8.fst.r0), Rc.d (D.int IntKind.i64 y8.fst.r1), Rc.d (D.int IntKind.i64 y8.fst.r2), Rc.d (D.int IntKind.i64 y8.fst.r3), Rc.d (D.sl (rowsOn y8.fst.mem)), Rc.d (D.sl (rowsOn y8.fst.stack)), Rc.d (D.int IntKind.i64 y8.fst.pc)], Sum.inl (Rc.d (D.sl (rowsOn y8.snd.fst))), Sum.inl (Rc.d (D.int IntKind.i64 y8.snd.snd))])))))))))))
     (VC.br (y4.kind == (7 : Int))
      (VC.need (PreOk c_sVal (Prg.of (Prg.cells p), Sta.of (Sta.cells y3), y4.aR, y4.aN) [A.agg (Prg.cells p), A.agg (Sta.cells y3), A.agg [D.bool y4.aR, D.int IntKind.i64 y4.aN]])
      (VC.all (v_sVal (Prg.of (Prg.cells p), Sta.of (Sta.cells y3), y4.aR, y4.aN)) fun (y5 : Int) =>
      (VC.need (PreOk c_sVal (Prg.of (Prg.cells p), Sta.of (Sta.cells y3), y4.bR, y4.bN) [A.agg (Prg.cells p), A.agg (Sta.cells y3), A.agg [D.bool y4.bR, D.int IntKind.i64 y4.bN]])
      (VC.all (v_sVal (Prg.of (Prg.cells p), Sta.of (Sta.cells y3), y4.bR, y4.bN)) fun (y6 : Int) =>
      (VC.need (PreOk c_sWay (Prg.of (Prg.cells p), Row.of [D.int IntKind.i64 y4.kind, D.int IntKind.i64 y4.op, D.int IntKind.i64 y4.d, D.bool y4.aR, D.int IntKind.i64 y4.aN, D.bool y4.bR, D.int IntKind.i64 y4.bN, D.str y4.name, D.int IntKind.i64 y4.target], y3.pc, y5, y6) [A.agg (Prg.cells p), A.agg [D.int IntKind.i64 y4.kind, D.int IntKind.i64 y4.op, D.int IntKind.i64 y4.d, D.bool y4.aR, D.int IntKind.i64 y4.aN, D.bool y4.bR, D.int IntKind.i64 y4.bN, D.str y4.name, D.int IntKind.i64 y4.target], A.c (D.int IntKind.i64 y3.pc), A.c (D.int IntKind.i64 y5), A.c (D.int IntKind.i64 y6)])
      (VC.all (v_sWay (Prg.of (Prg.cells p), Row.of [D.int IntKind.i64 y4.kind, D.int IntKind.i64 y4.op, D.int IntKind.i64 y4.d, D.bool y4.aR, D.int IntKind.i64 y4.aN, D.bool y4.bR, D.int IntKind.i64 y4.bN, D.str y4.name, D.int IntKind.i64 y4.target], y3.pc, y5, y6)) fun (y7 : Int) =>
      (VC.need (PreOk c_sJump (Sta.of (Sta.cells y3), y7) [A.agg (Sta.cells y3), A.c (D.int IntKind.i64 y7)])
      (VC.all (({ r0 := y3.r0, r1 := y3.r1, r2 := y3.r2, r3 := y3.r3, mem := listOf Int (rowsOn y3.mem), stack := listOf Int (rowsOn y3.stack), pc := y7 }, [{ kind := (3 : Int), at_ := y7 }], (0 : Int))) fun (y8 : Sta × List Obs × Int) =>
      (VC.ret (some (RR.tup [Sum.inr [Rc.d (D.int IntKind.i64 y8.fst.r0), Rc.d (D.int IntKind.i64 y8.fst.r1), Rc.d (D.int IntKind.i64 y8.fst.r2), Rc.d (D.int IntKind.i64 y8.fst.r3), Rc.d (D.sl (rowsOn y8.fst.mem)), Rc.d (D.sl (rowsOn y8.fst.stack)), Rc.d (D.int IntKind.i64 y8.fst.pc)], Sum.inl (Rc.d (D.sl (rowsOn y8.snd.fst))), Sum.inl (Rc.d (D.int IntKind.i64 y8.snd.snd))])))))))))))
      (VC.br (y4.kind == (6 : Int))
       (VC.ret (some (RR.tup [Sum.inr [Rc.d (D.int IntKind.i64 y3.r0), Rc.d (D.int IntKind.i64 y3.r1), Rc.d (D.int IntKind.i64 y3.r2), Rc.d (D.int IntKind.i64 y3.r3), Rc.new (1 : Nat) (rowsOn y3.mem), Rc.new (1 : Nat) (rowsOn y3.stack), Rc.d (D.int IntKind.i64 y4.target)], Sum.inl Rc.nil, Sum.inl (Rc.d (D.int IntKind.i64 (0 : Int)))])))
       (VC.br (y4.kind == (8 : Int))
        (VC.br (decide ((4 : Int) ≤ (↑(List.length (rowsOn y3.stack)) : Int)))
         (VC.ret (some (RR.tup [Sum.inr [Rc.d (D.int IntKind.i64 y2.r0), Rc.d (D.int IntKind.i64 y2.r1), Rc.d (D.int IntKind.i64 y2.r2), Rc.d (D.int IntKind.i64 y2.r3), Rc.new (1 : Nat) (rowsOn y2.mem), Rc.new (1 : Nat) (rowsOn y2.stack), Rc.d (D.int IntKind.i64 y2.pc)], Sum.inl Rc.nil, Sum.inl (Rc.d (D.int IntKind.i64 (2 : Int)))])))
         (VC.need ((List.all [[D.int IntKind.i64 (IntKind.wrap IntKind.i64 (y3.pc + (1 : Int)))]] fun r ↦ List.length r == (1 : Nat)) = true ∧ (List.all (rowsOn y3.stack) fun r ↦ List.length r == (1 : Nat)) = true ∧ (List.length (rowsOn y3.stack) + List.length [[D.int IntKind.i64 (IntKind.wrap IntKind.i64 (y3.pc + (1 : Int)))]] + (100 : Nat)) * (9 : Nat) ≤ (70368744177664 : Nat))
         (VC.ret (some (RR.tup [Sum.inr [Rc.d (D.int IntKind.i64 y3.r0), Rc.d (D.int IntKind.i64 y3.r1), Rc.d (D.int IntKind.i64 y3.r2), Rc.d (D.int IntKind.i64 y3.r3), Rc.new (1 : Nat) (rowsOn y3.mem), Rc.new (1 : Nat) (rowsOn y3.stack ++ [[D.int IntKind.i64 (IntKind.wrap IntKind.i64 (y3.pc + (1 : Int)))]]), Rc.d (D.int IntKind.i64 y4.target)], Sum.inl Rc.nil, Sum.inl (Rc.d (D.int IntKind.i64 (0 : Int)))])))))
        (VC.br (y4.kind == (9 : Int))
         (VC.need (PreOk c_sBack (Sta.of (Sta.cells y3), Sta.of (Sta.cells y2)) [A.agg (Sta.cells y3), A.agg (Sta.cells y2)])
         (VC.all (v_sBack (Sta.of (Sta.cells y3), Sta.of (Sta.cells y2))) fun (y5 : Sta × List Obs × Int) =>
         (VC.ret (some (RR.tup [Sum.inr [Rc.d (D.int IntKind.i64 y5.fst.r0), Rc.d (D.int IntKind.i64 y5.fst.r1), Rc.d (D.int IntKind.i64 y5.fst.r2), Rc.d (D.int IntKind.i64 y5.fst.r3), Rc.d (D.sl (rowsOn y5.fst.mem)), Rc.d (D.sl (rowsOn y5.fst.stack)), Rc.d (D.int IntKind.i64 y5.fst.pc)], Sum.inl (Rc.d (D.sl (rowsOn y5.snd.fst))), Sum.inl (Rc.d (D.int IntKind.i64 y5.snd.snd))])))))
         (VC.br (y4.kind == (10 : Int))
          (VC.ret (some (RR.tup [Sum.inr [Rc.d (D.int IntKind.i64 y3.r0), Rc.d (D.int IntKind.i64 y3.r1), Rc.d (D.int IntKind.i64 y3.r2), Rc.d (D.int IntKind.i64 y3.r3), Rc.new (1 : Nat) (rowsOn y3.mem), Rc.new (1 : Nat) (rowsOn y3.stack), Rc.d (D.int IntKind.i64 (IntKind.wrap IntKind.i64 (y3.pc + (1 : Int))))], Sum.inl Rc.nil, Sum.inl (Rc.d (D.int IntKind.i64 (0 : Int)))])))
          (VC.br (y4.kind == (11 : Int))
           (VC.ret (some (RR.tup [Sum.inr [Rc.d (D.int IntKind.i64 y2.r0), Rc.d (D.int IntKind.i64 y2.r1), Rc.d (D.int IntKind.i64 y2.r2), Rc.d (D.int IntKind.i64 y2.r3), Rc.new (1 : Nat) (rowsOn y2.mem), Rc.new (1 : Nat) (rowsOn y2.stack), Rc.d (D.int IntKind.i64 y2.pc)], Sum.inl Rc.nil, Sum.inl (Rc.d (D.int IntKind.i64 (1 : Int)))])))
           (VC.ret (some (RR.tup [Sum.inr [Rc.d (D.int IntKind.i64 y2.r0), Rc.d (D.int IntKind.i64 y2.r1), Rc.d (D.int IntKind.i64 y2.r2), Rc.d (D.int IntKind.i64 y2.r3), Rc.new (1 : Nat) (rowsOn y2.mem), Rc.new (1 : Nat) (rowsOn y2.stack), Rc.d (D.int IntKind.i64 y2.pc)], Sum.inl Rc.nil, Sum.inl (Rc.d (D.int IntKind.i64 (2 : Int)))])))))))))))))))))))) := by kernel_rfl
theorem obs_row (k a : Int) : rowsOn [(⟨k, a⟩ : Obs)] = [[.int .i64 k, .int .i64 a]] := rfl
theorem ins_eta (i : Ins) : (Row.of [D.int .i64 i.kind, .int .i64 i.op, .int .i64 i.d, .bool i.aR, .int .i64 i.aN, .bool i.bR, .int .i64 i.bN, .str i.name, .int .i64 i.target] : Ins) = i := Row.of_row i
theorem valS_range (w : Int) (s : Sta) (r : Bool) (n : Int) : 0 ≤ valS w s r n ∧ valS w s r n < 65536 := by
  unfold valS
  split
  · exact maskS_range _ _
  · exact maskS_range _ _
theorem setReg_out (s : Sta) {r : Int} (n : Int) (h : r < 0 ∨ 4 ≤ r) : s.setReg r n = s := by
  unfold Sta.setReg
  rw [if_neg (by omega), if_neg (by omega), if_neg (by omega), if_neg (by omega)]
theorem at_range {l : List Ins} {pc : Int} (h : (atS l pc).kind ≠ 12) : 0 ≤ pc ∧ pc < l.length := by
  unfold atS at h
  split at h
  · exact absurd rfl h
  · omega
def c_step : FT (Prg × Sta) := ⟨32, fun x => [ap x.1, as_ x.2], rdPS, fun x => Mems x.1.mems ∧ SmallS x.2 ∧ x.1.ins.length ≤ 1000000, fun x => rstep (stepS x.1 x.2), true, fun x => by simp [ap, as_, rdPS]⟩
theorem c_step_good : c_step.fe.Good Try.prog := by
  refine FT.good c_step ⟨Try.f32, by kernel_rfl, by decide +kernel, by kernel_rfl⟩ (fun ⟨p, s⟩ => by first | rfl | simp [c_step, rrRef, rins, rnum, rby, rss, rnewI, rnewE, rstab, rplaces, ri, rb, rib, rstep, Sta.fresh]) fun ⟨p, s⟩ hp => ?_
  refine acalls_leDZ Z_step_ok s_step_sound (fn := Try.f32) (a := a_step) (nargs := 2) (tbl := []) (by kernel_rfl) (by kernel_rfl) rfl (m := 400) ?_
  show VC.holds _ _ _ (a_step.start s_step 400 [ap p, as_ s])
  rw [t_step]
  try simp only [asRows_sl, asInt_int, asBool_bool, asStr_str, listOf_rowsOn, List.drop_zero, Prg.eta, Sta.eta, rowsOn_length, getD_drop, Nat.reduceAdd, rd_int, rd_PMem_name, rd_PMem_secret, rd_PMem_n, rd_PLabel_name, rd_PLabel_at_, rd_Ins_kind, rd_Ins_op, rd_Ins_d, rd_Ins_aR, rd_Ins_aN, rd_Ins_bR, rd_Ins_bN, rd_Ins_name, rd_Ins_target, rd_Ent_pc, rd_Ent_val, rd_Ent_addr, rd_Ent_fro, rd_Ent_next, rd_Ent_done, rd_Ent_known, rd_Ent_fault, rd_Place_reg, rd_Place_n, rd_Place_secret, rd_Obs_kind, rd_Obs_at_, rd_Dir_kind, rd_Dir_n, Prg.of_cells, Sta.of_cells]
  try simp only [c_step] at hp
  obtain ⟨hm, hs, hl⟩ := hp
  have e : c_step.ans (p, s) = rstep (stepS p s) := rfl
  rw [e]
  refine ⟨PreOk.mk hs rfl, all_holds fun y2 e2 => ⟨PreOk.mk hs rfl, all_holds fun y3 e3 => ?_⟩⟩
  replace e2 : s = y2 := e2.symm
  replace e3 : s = y3 := e3.symm
  subst e2
  subst e3
  refine ⟨PreOk.mk trivial rfl, all_holds fun i e4 => ?_⟩
  replace e4 : i = atS p.ins s.pc := e4
  have hr : i.kind ≠ 12 → IntKind.wrap .i64 (s.pc + 1) = s.pc + 1 := fun h => by
    have := at_range (l := p.ins) (pc := s.pc) (by rw [← e4]; exact h)
    exact wrap_small _ (by omega) (by omega)
  repeat' first
    | refine br_not ?_
    | refine br_dec (fun _ => ?_) (fun _ => ?_)
    | refine br_beq (fun _ => ?_) (fun _ => ?_)
    | refine br_bne (fun _ => ?_) (fun _ => ?_)
    | refine br_holds (fun _ => ?_) (fun _ => ?_)
    | refine ⟨PreOk.mk ?_ rfl, ?_⟩
    | refine ⟨idx_ok _ _ _ rfl (by omega) (by omega), ?_⟩
    | refine ⟨okSh_ok _ _ _ (fun _ => rfl) (by omega) (by omega), ?_⟩
    | refine ⟨okSh_okD _ _ _ _ (fun _ => rfl) (by omega) (by omega), ?_⟩
    | refine ⟨aload_ok _ _ rfl (fun _ => rfl) (by omega) (by omega), ?_⟩
    | refine ⟨aload_okD _ _ _ rfl (fun _ => rfl) (by omega) (by omega), ?_⟩
    | refine ⟨astore_ok (by assumption) rfl (by omega) (by omega) (by decide), ?_⟩
    | refine ⟨app_ok (by assumption) rfl rfl (by simp only [List.length_cons, List.length_nil]; omega), ?_⟩
    | refine need_holds ?_ fun _ => ?_
    | refine all_holds fun y hy => ?_
    | refine ret_leD ?_
  all_goals subst_vars
  all_goals try exact trivial
  all_goals try (exfalso; omega)
  all_goals try simp only [v_sValue, v_sVal, v_sReg, v_sAddr, v_sWay, ins_eta] at *
  all_goals try (refine RR.le_of_eq ?_; simp [RR.data, Rc.data, rstep, stepS, Sta.setReg, Sta.cells, v_sJump, v_sBack, rowsOn_nil, obs_row, jumpS, backS, *]; done)
  all_goals try (rename_i h; refine RR.le_of_eq ?_; simp [RR.data, Rc.data, rstep, stepS, setReg_out s _ (show (atS p.ins s.pc).d < 0 ∨ 4 ≤ (atS p.ins s.pc).d by omega), Sta.cells, rowsOn_nil, obs_row, *]; done)
  all_goals try exact ⟨hm, (valS_range ..).1, (valS_range ..).2, (valS_range ..).1, (valS_range ..).2⟩
  all_goals try exact PreOk.mk trivial (by simp [c_sReg, Sta.of, as_, Sta.cells, ap, ai])
  all_goals try exact hs
  all_goals try exact ⟨rfl, all1 _, by simp only [List.length_cons, List.length_nil]; have := hs.2; omega⟩
  all_goals try (have hrg := at_range (l := p.ins) (pc := s.pc) (by rw [show (atS p.ins s.pc).kind = _ from ‹_›]; decide); exact ⟨by dsimp only; omega, by dsimp only; omega⟩)
  all_goals try simp only [← Int.not_lt, Classical.not_not, decide_eq_true_eq, decide_eq_false_iff_not] at *
  all_goals try (have hda := of_decide_eq_true (p := maskS p.w (valS p.w s (atS p.ins s.pc).aR (atS p.ins s.pc).aN + valS p.w s (atS p.ins s.pc).bR (atS p.ins s.pc).bN) < cellsS p.mems) (by assumption))
  all_goals try (have hda := of_decide_eq_false (p := maskS p.w (valS p.w s (atS p.ins s.pc).aR (atS p.ins s.pc).aN + valS p.w s (atS p.ins s.pc).bR (atS p.ins s.pc).bN) < cellsS p.mems) (by assumption))
  all_goals have hA0 := (maskS_range p.w (valS p.w s (atS p.ins s.pc).aR (atS p.ins s.pc).aN + valS p.w s (atS p.ins s.pc).bR (atS p.ins s.pc).bN)).1
  all_goals try exact ⟨by omega, (idx_ok s.mem _ 1 rfl hA0 (by assumption)).2.2, by decide⟩
  all_goals try exact ⟨by have := maskS_range p.w (valS p.w s (atS p.ins s.pc).aR (atS p.ins s.pc).aN + valS p.w s (atS p.ins s.pc).bR (atS p.ins s.pc).bN); omega, by assumption⟩
  all_goals try (refine RR.le_of_eq ?_; simp [RR.data, Rc.data, rstep, stepS, Sta.setReg, Sta.cells, rowsOn_nil, obs_row, *]; done)
  all_goals try (rename_i h; refine RR.le_of_eq ?_; simp [RR.data, Rc.data, rstep, stepS, setReg_out s _ (show (atS p.ins s.pc).d < 0 ∨ 4 ≤ (atS p.ins s.pc).d by omega), Sta.cells, rowsOn_nil, obs_row, *]; done)
  · refine RR.le_of_eq ?_
    simp [RR.data, Rc.data, rstep, stepS, Sta.of, Sta.reg, Sta.cells, rowsOn_nil, obs_row, *]
    exact (OnL.set (R := rowsOn s.mem) (n := s.mem.length) (l := s.mem) ⟨rfl, rfl⟩ hA0 (by assumption) _).1
  · have h4 : 4 ≤ s.stack.length := by omega
    refine RR.le_of_eq ?_
    simp [RR.data, Rc.data, rstep, stepS, Sta.cells, rowsOn_nil, *]
  · have h4 : ¬ 4 ≤ s.stack.length := by omega
    have es : rowsOn s.stack ++ [[D.int .i64 (IntKind.wrap .i64 (s.pc + 1))]] = rowsOn (s.stack ++ [IntKind.wrap .i64 (s.pc + 1)]) := rowsOn_snoc _ _
    refine RR.le_of_eq ?_
    rw [es]
    simp [RR.data, Rc.data, rstep, stepS, Sta.cells, rowsOn_nil, *]
end Go.Proofs.Ytmhfhobaicklmaa.Ax
end

section
/- One by one: runs. -/
namespace Go.Proofs.Ytmhfhobaicklmaa.Ax
open Go.RowKit
set_option linter.unusedVariables false
set_option linter.unusedSimpArgs false
theorem setReg_mem' (s : Sta) (r n : Int) : (s.setReg r n).mem = s.mem ∧ (s.setReg r n).stack = s.stack := by
  unfold Sta.setReg
  repeat' split
  all_goals exact ⟨rfl, rfl⟩
theorem step_len (p : Prg) (s : Sta) : (stepS p s).1.mem.length = s.mem.length ∧ (stepS p s).1.stack.length ≤ max s.stack.length 4 ∧ (stepS p s).2.1.length ≤ 1 := by
  have hr := fun n => setReg_mem' s (atS p.ins s.pc).d n
  unfold stepS
  dsimp only
  repeat' split
  all_goals simp [hr]
  all_goals omega
theorem step_small {p : Prg} {s : Sta} (h : SmallS s) : SmallS (stepS p s).1 := by
  obtain ⟨h1, h2, h3⟩ := step_len p s
  obtain ⟨g1, g2⟩ := h
  exact ⟨by omega, by omega⟩
def comb (acc : List Obs) (d : Int) (r : Sta × List Obs × Int × Int) : Sta × List Obs × Int × Int := (r.1, acc ++ r.2.1, d + r.2.2.1, r.2.2.2)
theorem runS_stop {p : Prg} {n : Nat} {s : Sta} (h : (stepS p s).2.2 ≠ 0) : runS p (n + 1) s = ((stepS p s).1, (stepS p s).2.1, 1, (stepS p s).2.2) := by
  simp only [runS]
  rw [if_pos h]
theorem runS_go {p : Prg} {n : Nat} {s : Sta} (h : (stepS p s).2.2 = 0) : runS p (n + 1) s = ((runS p n (stepS p s).1).1, (stepS p s).2.1 ++ (runS p n (stepS p s).1).2.1, (runS p n (stepS p s).1).2.2.1 + 1, (runS p n (stepS p s).1).2.2.2) := by
  simp only [runS]
  rw [if_neg (fun hne => hne h)]
theorem comb_nil (r : Sta × List Obs × Int × Int) : comb [] 0 r = r := by simp [comb]
def rrun (x : Sta × List Obs × Int × Int) : RR := .tup [.inr (x.1.cells.map .d), .inl (.d (.sl (rowsOn x.2.1))), .inl (.d (.int .i64 x.2.2.1)), .inl (.d (.int .i64 x.2.2.2))]
def c_run : FT (Prg × Sta × Int) := ⟨30, fun x => [ap x.1, as_ x.2.1, ai x.2.2], rdPSI, fun x => Mems x.1.mems ∧ SmallS x.2.1 ∧ x.1.ins.length ≤ 1000000 ∧ x.2.2 ≤ 1000000, fun x => rrun (runS x.1 x.2.2.toNat x.2.1), true, fun x => by simp [ap, as_, ai, rdPSI]⟩
noncomputable def v_step : Prg × Sta → Sta × List Obs × Int := fun x => stepS x.1 x.2
noncomputable def sh_step : Sta × List Obs × Int → RR := fun x => rstep x
theorem e_step (x : Prg × Sta) : sh_step (v_step x) = c_step.ans x := rfl
noncomputable def a_run : FnA := (fnA Try.prog Try.f30 3 [(4, [2, 3, 4, 6, 10, 11, 1000010000000900003002])]).getD ⟨0, .skip, [], []⟩
noncomputable def s_run : Sp := spT [c_aStill.gfe v_aStill sh_aStill e_aStill, c_step.gfe v_step sh_step e_step]
theorem s_run_sound : s_run.sound Try.prog := spT_sound fun e he => by
  simp only [List.mem_cons, List.not_mem_nil, or_false] at he
  rcases he with rfl | rfl
  · exact FT.gfe_good c_aStill_good
  · exact FT.gfe_good c_step_good
def F_run (p : Prg) (s : Sta) (n d : Int) (R : List (List D)) (m : Nat) : St := ⟨mkS 45 [(2, vi n), (3, vp 192), (4, vp 256), (6, vp 384), (10, vo 900003 m), (11, vi d)], [(192, bx p.cells), (256, bx s.cells), (384, bc [.d (.int .i64 0), .d (.int .i64 0), .d (.int .i64 0), .d (.int .i64 0), .nil, .nil, .d (.int .i64 0)]), (900003, ba 2 R)]⟩
def F_runo (p : Prg) (s : Sta) (n d : Int) (R : List (List D)) (m : Nat) : St := ⟨mkS 45 [(2, vi n), (3, vp 192), (4, vp 256), (6, vp 384), (10, vo 900003 m), (11, vi d)], [(192, bx p.cells), (256, bc [.d (.int .i64 s.r0), .d (.int .i64 s.r1), .d (.int .i64 s.r2), .d (.int .i64 s.r3), .own 1028 1 (rowsOn s.mem).length, .own 1029 1 (rowsOn s.stack).length, .d (.int .i64 s.pc)]), (384, bc [.d (.int .i64 0), .d (.int .i64 0), .d (.int .i64 0), .d (.int .i64 0), .nil, .nil, .d (.int .i64 0)]), (1028, ba 1 (rowsOn s.mem)), (1029, ba 1 (rowsOn s.stack)), (900003, ba 2 R)]⟩
set_option maxRecDepth 100000 in
theorem t_run (p : Prg) (s : Sta) (n : Int) : a_run.start s_run 400 [ap p, as_ s, ai n] =
(VC.need (PreOk c_aStill (Sta.of (Sta.cells s), ()) [A.agg (Sta.cells s)])
(VC.all (v_aStill (Sta.of (Sta.cells s), ())) fun (y3 : Sta) =>
(FnA.at_ a_run 0 (F_runo p y3 n (0 : Int) [] (0 : Nat))))) := by kernel_rfl
set_option maxRecDepth 100000 in
theorem t_runo (p : Prg) (s : Sta) (n d : Int) (R : List (List D)) (m : Nat) : a_run.round s_run 400 0 (F_runo p s n d R m) =
(VC.br (decide (d < n))
 (VC.need (PreOk c_step (Prg.of (Prg.cells p), Sta.of (Sta.cells s)) [A.agg (Prg.cells p), A.agg (Sta.cells s)])
 (VC.all (v_step (Prg.of (Prg.cells p), Sta.of (Sta.cells s))) fun (y6 : Sta × List Obs × Int) =>
 (VC.need ((List.all (rowsOn y6.snd.fst) fun r ↦ List.length r == (2 : Nat)) = true ∧ (List.all R fun r ↦ List.length r == (2 : Nat)) = true ∧ (List.length R + List.length (rowsOn y6.snd.fst) + (100 : Nat)) * (17 : Nat) ≤ (70368744177664 : Nat))
 (VC.br (y6.snd.snd != (0 : Int))
  (VC.ret (some (RR.tup [Sum.inr [Rc.d (D.int IntKind.i64 y6.fst.r0), Rc.d (D.int IntKind.i64 y6.fst.r1), Rc.d (D.int IntKind.i64 y6.fst.r2), Rc.d (D.int IntKind.i64 y6.fst.r3), Rc.d (D.sl (rowsOn y6.fst.mem)), Rc.d (D.sl (rowsOn y6.fst.stack)), Rc.d (D.int IntKind.i64 y6.fst.pc)], Sum.inl (Rc.new (2 : Nat) (R ++ rowsOn y6.snd.fst)), Sum.inl (Rc.d (D.int IntKind.i64 (IntKind.wrap IntKind.i64 (d + (1 : Int))))), Sum.inl (Rc.d (D.int IntKind.i64 y6.snd.snd))])))
  (VC.br (IntKind.wrap IntKind.i64 (d + (1 : Int)) == n)
   (VC.ret (some (RR.tup [Sum.inr [Rc.d (D.int IntKind.i64 y6.fst.r0), Rc.d (D.int IntKind.i64 y6.fst.r1), Rc.d (D.int IntKind.i64 y6.fst.r2), Rc.d (D.int IntKind.i64 y6.fst.r3), Rc.d (D.sl (rowsOn y6.fst.mem)), Rc.d (D.sl (rowsOn y6.fst.stack)), Rc.d (D.int IntKind.i64 y6.fst.pc)], Sum.inl (Rc.new (2 : Nat) (R ++ rowsOn y6.snd.fst)), Sum.inl (Rc.d (D.int IntKind.i64 (IntKind.wrap IntKind.i64 (d + (1 : Int))))), Sum.inl (Rc.d (D.int IntKind.i64 y6.snd.snd))])))
   (FnA.at_ a_run 0 (F_run p y6.fst n (IntKind.wrap IntKind.i64 (d + (1 : Int))) (R ++ rowsOn y6.snd.fst) (List.length R + List.length (rowsOn y6.snd.fst)))))))))
 (VC.ret (some (RR.tup [Sum.inr [Rc.d (D.int IntKind.i64 s.r0), Rc.d (D.int IntKind.i64 s.r1), Rc.d (D.int IntKind.i64 s.r2), Rc.d (D.int IntKind.i64 s.r3), Rc.new (1 : Nat) (rowsOn s.mem), Rc.new (1 : Nat) (rowsOn s.stack), Rc.d (D.int IntKind.i64 s.pc)], Sum.inl Rc.nil, Sum.inl (Rc.d (D.int IntKind.i64 (0 : Int))), Sum.inl (Rc.d (D.int IntKind.i64 (0 : Int)))])))) := by kernel_rfl
set_option maxRecDepth 100000 in
theorem t_run0 (p : Prg) (s : Sta) (n d : Int) (R : List (List D)) (m : Nat) : a_run.round s_run 400 0 (F_run p s n d R m) =
(VC.br (decide (d < n))
 (VC.need (PreOk c_step (Prg.of (Prg.cells p), Sta.of (Sta.cells s)) [A.agg (Prg.cells p), A.agg (Sta.cells s)])
 (VC.all (v_step (Prg.of (Prg.cells p), Sta.of (Sta.cells s))) fun (y6 : Sta × List Obs × Int) =>
 (VC.need ((List.all (rowsOn y6.snd.fst) fun r ↦ List.length r == (2 : Nat)) = true ∧ (List.all R fun r ↦ List.length r == (2 : Nat)) = true ∧ (List.length R + List.length (rowsOn y6.snd.fst) + (100 : Nat)) * (17 : Nat) ≤ (70368744177664 : Nat))
 (VC.br (y6.snd.snd != (0 : Int))
  (VC.ret (some (RR.tup [Sum.inr [Rc.d (D.int IntKind.i64 y6.fst.r0), Rc.d (D.int IntKind.i64 y6.fst.r1), Rc.d (D.int IntKind.i64 y6.fst.r2), Rc.d (D.int IntKind.i64 y6.fst.r3), Rc.d (D.sl (rowsOn y6.fst.mem)), Rc.d (D.sl (rowsOn y6.fst.stack)), Rc.d (D.int IntKind.i64 y6.fst.pc)], Sum.inl (Rc.new (2 : Nat) (R ++ rowsOn y6.snd.fst)), Sum.inl (Rc.d (D.int IntKind.i64 (IntKind.wrap IntKind.i64 (d + (1 : Int))))), Sum.inl (Rc.d (D.int IntKind.i64 y6.snd.snd))])))
  (VC.br (IntKind.wrap IntKind.i64 (d + (1 : Int)) == n)
   (VC.ret (some (RR.tup [Sum.inr [Rc.d (D.int IntKind.i64 y6.fst.r0), Rc.d (D.int IntKind.i64 y6.fst.r1), Rc.d (D.int IntKind.i64 y6.fst.r2), Rc.d (D.int IntKind.i64 y6.fst.r3), Rc.d (D.sl (rowsOn y6.fst.mem)), Rc.d (D.sl (rowsOn y6.fst.stack)), Rc.d (D.int IntKind.i64 y6.fst.pc)], Sum.inl (Rc.new (2 : Nat) (R ++ rowsOn y6.snd.fst)), Sum.inl (Rc.d (D.int IntKind.i64 (IntKind.wrap IntKind.i64 (d + (1 : Int))))), Sum.inl (Rc.d (D.int IntKind.i64 y6.snd.snd))])))
   (FnA.at_ a_run 0 (F_run p y6.fst n (IntKind.wrap IntKind.i64 (d + (1 : Int))) (R ++ rowsOn y6.snd.fst) (List.length R + List.length (rowsOn y6.snd.fst)))))))))
 (VC.ret (some (RR.tup [Sum.inr [Rc.d (D.int IntKind.i64 s.r0), Rc.d (D.int IntKind.i64 s.r1), Rc.d (D.int IntKind.i64 s.r2), Rc.d (D.int IntKind.i64 s.r3), Rc.d (D.sl (rowsOn s.mem)), Rc.d (D.sl (rowsOn s.stack)), Rc.d (D.int IntKind.i64 s.pc)], Sum.inl Rc.nil, Sum.inl (Rc.d (D.int IntKind.i64 (0 : Int))), Sum.inl (Rc.d (D.int IntKind.i64 (0 : Int)))])))) := by kernel_rfl
theorem OnL.app2 {α : Type} [Row α] {R : List (List D)} {n : Nat} {l : List α} (h : OnL R n l) (m : List α) : OnL (R ++ rowsOn m) (R.length + m.length) (l ++ m) := by
  have := h.app m
  rwa [rowsOn_length] at this
theorem all2 {α : Type} [Row α] (l : List α) {k : Nat} (h : k = Row.n α) : ((rowsOn l).all fun r => r.length == k) = true := rowsOn_all l k h
theorem rrun_le {t : Sta} {R : List (List D)} {m : Nat} {acc : List Obs} {k e : Int} {fin : Sta × List Obs × Int × Int} (hR : OnL R m acc) (h : fin = (t, acc, k, e)) : (RR.tup [.inr [.d (.int .i64 t.r0), .d (.int .i64 t.r1), .d (.int .i64 t.r2), .d (.int .i64 t.r3), .d (.sl (rowsOn t.mem)), .d (.sl (rowsOn t.stack)), .d (.int .i64 t.pc)], .inl (.new 2 R), .inl (.d (.int .i64 k)), .inl (.d (.int .i64 e))]).data.le (rrun fin) := by
  subst h
  rw [hR.1]
  exact RR.le_of_eq rfl
theorem l_run0 (p : Prg) (n : Int) (fin : Sta × List Obs × Int × Int) (hm : Mems p.mems) (hl : p.ins.length ≤ 1000000) (hn : n ≤ 1000000) : ∀ i_ : Sta × Int × List (List D) × Nat, (fun (i : Sta × Int × List (List D) × Nat) => SmallS i.1 ∧ 0 ≤ i.2.1 ∧ i.2.1 < n ∧ ∃ acc : List Obs, OnL i.2.2.1 i.2.2.2 acc ∧ acc.length ≤ i.2.1 ∧ comb acc i.2.1 (runS p (n - i.2.1).toNat i.1) = fin) i_ → (a_run.at_ 0 ((fun (i : Sta × Int × List (List D) × Nat) => F_run p i.1 n i.2.1 i.2.2.1 i.2.2.2) i_)).holds s_run.cx a_run.rs (fun r => r.data.le (rrun fin)) := by
  refine loop_rule (a := a_run) (j := 0) (m := 400) s_run_sound (fun (i : Sta × Int × List (List D) × Nat) => F_run p i.1 n i.2.1 i.2.2.1 i.2.2.2) (fun (i : Sta × Int × List (List D) × Nat) => SmallS i.1 ∧ 0 ≤ i.2.1 ∧ i.2.1 < n ∧ ∃ acc : List Obs, OnL i.2.2.1 i.2.2.2 acc ∧ acc.length ≤ i.2.1 ∧ comb acc i.2.1 (runS p (n - i.2.1).toNat i.1) = fin) (fun (i : Sta × Int × List (List D) × Nat) => (n - i.2.1).toNat) ?_
  rintro ⟨s, d, R, m⟩ h_inv ih
  try dsimp only at h_inv
  replace ih := fun (v0 : Sta) (v1 : Int) (v2 : List (List D)) (v3 : Nat) => ih (v0, v1, v2, v3)
  try dsimp only at ih
  show VC.holds _ _ _ (a_run.round s_run 400 0 (F_run p s n d R m))
  rw [t_run0]
  try simp only [asRows_sl, asInt_int, asBool_bool, asStr_str, listOf_rowsOn, List.drop_zero, Prg.eta, Sta.eta, rowsOn_length, getD_drop, Nat.reduceAdd, rd_int, rd_PMem_name, rd_PMem_secret, rd_PMem_n, rd_PLabel_name, rd_PLabel_at_, rd_Ins_kind, rd_Ins_op, rd_Ins_d, rd_Ins_aR, rd_Ins_aN, rd_Ins_bR, rd_Ins_bN, rd_Ins_name, rd_Ins_target, rd_Ent_pc, rd_Ent_val, rd_Ent_addr, rd_Ent_fro, rd_Ent_next, rd_Ent_done, rd_Ent_known, rd_Ent_fault, rd_Place_reg, rd_Place_n, rd_Place_secret, rd_Obs_kind, rd_Obs_at_, rd_Dir_kind, rd_Dir_n, Prg.of_cells, Sta.of_cells]
  obtain ⟨hs, h0, h1, acc, h2, h3, h4⟩ := h_inv
  have w1 : IntKind.wrap .i64 (d + 1) = d + 1 := wrap_small _ (by omega) (by omega)
  rw [w1]
  obtain ⟨k, hk⟩ : ∃ k, (n - d).toNat = k + 1 := ⟨(n - d).toNat - 1, by omega⟩
  rw [hk] at h4
  have hol := (step_len p s).2.2
  have e2 := h2.2
  refine br_dec (fun _ => ?_) (fun h => absurd h1 h)
  refine ⟨PreOk.mk ⟨hm, hs, hl⟩ rfl, all_holds fun y hy => ?_⟩
  replace hy : y = stepS p s := hy
  subst hy
  have e1 := h2.1
  refine ⟨⟨all2 _ rfl, by rw [e1]; exact all2 _ rfl, by rw [e1]; simp only [rowsOn_length]; omega⟩, ?_⟩
  refine br_bne (fun h => ?_) (fun h => ?_)
  · refine ret_leD (rrun_le (h2.app _) ?_)
    rw [← h4, runS_stop h]
    rfl
  · rw [runS_go h] at h4
    refine br_beq (fun h' => ?_) (fun h' => ?_)
    · refine ret_leD (rrun_le (h2.app _) ?_)
      have hk0 : k = 0 := by omega
      subst hk0
      rw [← h4, h]
      simp [comb, runS]
    · refine ih _ _ _ _ ⟨step_small hs, by omega, by omega, _, h2.app2 _, by simp only [List.length_append]; omega, ?_⟩ (by omega)
      rw [← h4, show (n - (d + 1)).toNat = k by omega]
      simp [comb, List.append_assoc]
      omega
theorem c_run_good : c_run.fe.Good Try.prog := by
  refine FT.good c_run ⟨Try.f30, by kernel_rfl, by decide +kernel, by kernel_rfl⟩ (fun ⟨p, s, n⟩ => by first | rfl | simp [c_run, rrRef, rstep, rins, rnum, rby, rss, rnewI, rnewE, rstab, rplaces, ri, rb, rib, rrun, Sta.fresh]) fun ⟨p, s, n⟩ hp => ?_
  refine acalls_leD s_run_sound (fn := Try.f30) (a := a_run) (nargs := 3) (tbl := [(4, [2, 3, 4, 6, 10, 11, 1000010000000900003002])]) (by kernel_rfl) (by kernel_rfl) rfl (m := 400) ?_
  show VC.holds _ _ _ (a_run.start s_run 400 [ap p, as_ s, ai n])
  rw [t_run]
  try simp only [asRows_sl, asInt_int, asBool_bool, asStr_str, listOf_rowsOn, List.drop_zero, Prg.eta, Sta.eta, rowsOn_length, getD_drop, Nat.reduceAdd, rd_int, rd_PMem_name, rd_PMem_secret, rd_PMem_n, rd_PLabel_name, rd_PLabel_at_, rd_Ins_kind, rd_Ins_op, rd_Ins_d, rd_Ins_aR, rd_Ins_aN, rd_Ins_bR, rd_Ins_bN, rd_Ins_name, rd_Ins_target, rd_Ent_pc, rd_Ent_val, rd_Ent_addr, rd_Ent_fro, rd_Ent_next, rd_Ent_done, rd_Ent_known, rd_Ent_fault, rd_Place_reg, rd_Place_n, rd_Place_secret, rd_Obs_kind, rd_Obs_at_, rd_Dir_kind, rd_Dir_n, Prg.of_cells, Sta.of_cells]
  try simp only [c_run] at hp
  obtain ⟨hm, hs, hl, hn⟩ := hp
  refine ⟨PreOk.mk hs rfl, all_holds fun y hy => ?_⟩
  replace hy : s = y := hy.symm
  subst hy
  have e : c_run.ans (p, s, n) = rrun (runS p n.toNat s) := rfl
  rw [e]
  refine at_of_round s_run_sound (m := 400) ?_
  rw [t_runo]
  have hol := (step_len p s).2.2
  try simp only [asRows_sl, asInt_int, asBool_bool, asStr_str, listOf_rowsOn, List.drop_zero, Prg.eta, Sta.eta, rowsOn_length, getD_drop, Nat.reduceAdd, rd_int, rd_PMem_name, rd_PMem_secret, rd_PMem_n, rd_PLabel_name, rd_PLabel_at_, rd_Ins_kind, rd_Ins_op, rd_Ins_d, rd_Ins_aR, rd_Ins_aN, rd_Ins_bR, rd_Ins_bN, rd_Ins_name, rd_Ins_target, rd_Ent_pc, rd_Ent_val, rd_Ent_addr, rd_Ent_fro, rd_Ent_next, rd_Ent_done, rd_Ent_known, rd_Ent_fault, rd_Place_reg, rd_Place_n, rd_Place_secret, rd_Obs_kind, rd_Obs_at_, rd_Dir_kind, rd_Dir_n, Prg.of_cells, Sta.of_cells]
  rw [wrap_small (0 + 1) (by omega) (by omega)]
  refine br_dec (fun h => ?_) (fun h => ?_)
  · obtain ⟨k, hk⟩ : ∃ k, n.toNat = k + 1 := ⟨n.toNat - 1, by omega⟩
    refine ⟨PreOk.mk ⟨hm, hs, hl⟩ rfl, all_holds fun y hy => ?_⟩
    replace hy : y = stepS p s := hy
    subst hy
    refine ⟨⟨all2 _ rfl, rfl, by simp; omega⟩, ?_⟩
    have ho : OnL ([] ++ rowsOn (stepS p s).2.1) (([] : List (List D)).length + (stepS p s).2.1.length) (([] : List Obs) ++ (stepS p s).2.1) := OnL.nil.app2 _
    rw [hk]
    refine br_bne (fun h => ?_) (fun h => ?_)
    · refine ret_leD (rrun_le ho ?_)
      rw [runS_stop h]
      rfl
    · rw [runS_go h]
      refine br_beq (fun h' => ?_) (fun h' => ?_)
      · refine ret_leD (rrun_le ho ?_)
        have hk0 : k = 0 := by omega
        subst hk0
        rw [h]
        simp [runS]
      · refine l_run0 p n _ hm hl hn ((stepS p s).1, 0 + 1, _, _) ⟨step_small hs, by dsimp only; omega, by dsimp only; omega, _, ho, by simp; omega, ?_⟩
        rw [show (n - (0 + 1)).toNat = k by omega]
        simp [comb]
        omega
  · refine ret_leD ?_
    have hk : n.toNat = 0 := by omega
    rw [hk]
    exact RR.le_of_eq rfl
end Go.Proofs.Ytmhfhobaicklmaa.Ax
end

section
/- One by one, by the document: auguryref7's step and run. -/
namespace Go.Proofs.Ytmhfhobaicklmaa.Ax
open Go.RowKit
set_option linter.unusedVariables false
set_option linter.unusedSimpArgs false
def c_rAt : FT (Prg × Int) := ⟨48, fun x => [ap x.1, ai x.2], rdPI, fun _ => True, fun x => rins (atS x.1.ins x.2), false, fun x => by simp [ap, ai, rdPI]⟩
noncomputable def a_rAt : FnA := (fnA Try.prog Try.f48 2 []).getD ⟨0, .skip, [], []⟩
def s_rAt : Sp := spT []
theorem s_rAt_sound : s_rAt.sound Try.prog := spT_sound fun e he => by cases he
set_option maxRecDepth 100000 in
theorem t_rAt (p : Prg) (i : Int) : a_rAt.start s_rAt 400 [ap p, ai i] =
(VC.br (decide (i < (0 : Int)))
 (VC.ret (some (RR.agg [Rc.d (D.int IntKind.i64 (12 : Int)), Rc.d (D.int IntKind.i64 (0 : Int)), Rc.d (D.int IntKind.i64 (0 : Int)), Rc.d (D.bool false), Rc.d (D.int IntKind.i64 (0 : Int)), Rc.d (D.bool false), Rc.d (D.int IntKind.i64 (0 : Int)), Rc.d (D.str { data := #[] }), Rc.d (D.int IntKind.i64 (0 : Int))])))
 (VC.br (decide ((↑(List.length (rowsOn p.ins)) : Int) ≤ i))
  (VC.ret (some (RR.agg [Rc.d (D.int IntKind.i64 (12 : Int)), Rc.d (D.int IntKind.i64 (0 : Int)), Rc.d (D.int IntKind.i64 (0 : Int)), Rc.d (D.bool false), Rc.d (D.int IntKind.i64 (0 : Int)), Rc.d (D.bool false), Rc.d (D.int IntKind.i64 (0 : Int)), Rc.d (D.str { data := #[] }), Rc.d (D.int IntKind.i64 (0 : Int))])))
  (VC.need ((0 : Int) ≤ i ∧ i < (↑(List.length (rowsOn p.ins)) : Int) ∧ List.length (rowAt (rowsOn p.ins) (Int.toNat i)) = (9 : Nat))
  (VC.need (okSh [Kd.int IntKind.i64, Kd.int IntKind.i64, Kd.int IntKind.i64, Kd.bool, Kd.int IntKind.i64, Kd.bool, Kd.int IntKind.i64, Kd.str, Kd.int IntKind.i64] (rowAt (rowsOn p.ins) (Int.toNat i)))
  (VC.ret (some (RR.agg [Rc.d (D.int IntKind.i64 (asInt (List.getD (rowAt (rowsOn p.ins) (Int.toNat i)) (0 : Nat) D.nilp))), Rc.d (D.int IntKind.i64 (asInt (List.getD (rowAt (rowsOn p.ins) (Int.toNat i)) (1 : Nat) D.nilp))), Rc.d (D.int IntKind.i64 (asInt (List.getD (rowAt (rowsOn p.ins) (Int.toNat i)) (2 : Nat) D.nilp))), Rc.d (D.bool (asBool (List.getD (rowAt (rowsOn p.ins) (Int.toNat i)) (3 : Nat) D.nilp))), Rc.d (D.int IntKind.i64 (asInt (List.getD (rowAt (rowsOn p.ins) (Int.toNat i)) (4 : Nat) D.nilp))), Rc.d (D.bool (asBool (List.getD (rowAt (rowsOn p.ins) (Int.toNat i)) (5 : Nat) D.nilp))), Rc.d (D.int IntKind.i64 (asInt (List.getD (rowAt (rowsOn p.ins) (Int.toNat i)) (6 : Nat) D.nilp))), Rc.d (D.str (asStr (List.getD (rowAt (rowsOn p.ins) (Int.toNat i)) (7 : Nat) D.nilp))), Rc.d (D.int IntKind.i64 (asInt (List.getD (rowAt (rowsOn p.ins) (Int.toNat i)) (8 : Nat) D.nilp)))]))))))) := by kernel_rfl
theorem c_rAt_good : c_rAt.fe.Good Try.prog := by
  refine FT.good c_rAt ⟨Try.f48, by kernel_rfl, by decide +kernel, by kernel_rfl⟩ (fun ⟨p, i⟩ => by first | rfl | simp [c_rAt, rrRef, rrun, rstep, rins, rnum, rby, rss, rnewI, rnewE, rstab, rplaces, ri, rb, rib, Sta.fresh]) fun ⟨p, i⟩ hp => ?_
  refine acalls_le s_rAt_sound (fn := Try.f48) (a := a_rAt) (nargs := 2) (tbl := []) (by kernel_rfl) (by kernel_rfl) rfl (m := 400) ?_
  show VC.holds _ _ _ (a_rAt.start s_rAt 400 [ap p, ai i])
  rw [t_rAt]
  try simp only [asRows_sl, asInt_int, asBool_bool, asStr_str, listOf_rowsOn, List.drop_zero, Prg.eta, Sta.eta, rowsOn_length, getD_drop, Nat.reduceAdd, rd_int, rd_PMem_name, rd_PMem_secret, rd_PMem_n, rd_PLabel_name, rd_PLabel_at_, rd_Ins_kind, rd_Ins_op, rd_Ins_d, rd_Ins_aR, rd_Ins_aN, rd_Ins_bR, rd_Ins_bN, rd_Ins_name, rd_Ins_target, rd_Ent_pc, rd_Ent_val, rd_Ent_addr, rd_Ent_fro, rd_Ent_next, rd_Ent_done, rd_Ent_known, rd_Ent_fault, rd_Place_reg, rd_Place_n, rd_Place_secret, rd_Obs_kind, rd_Obs_at_, rd_Dir_kind, rd_Dir_n, Prg.of_cells, Sta.of_cells]
  try simp only [c_rAt] at hp
  repeat' first
    | refine br_not ?_
    | refine br_dec (fun _ => ?_) (fun _ => ?_)
    | refine br_beq (fun _ => ?_) (fun _ => ?_)
    | refine br_bne (fun _ => ?_) (fun _ => ?_)
    | refine br_holds (fun _ => ?_) (fun _ => ?_)
    | refine ⟨PreOk.mk ?_ rfl, ?_⟩
    | refine ⟨idx_ok _ _ _ rfl (by omega) (by omega), ?_⟩
    | refine ⟨okSh_ok _ _ _ (fun _ => rfl) (by omega) (by omega), ?_⟩
    | refine ⟨okSh_okD _ _ _ _ (fun _ => rfl) (by omega) (by omega), ?_⟩
    | refine ⟨aload_ok _ _ rfl (fun _ => rfl) (by omega) (by omega), ?_⟩
    | refine ⟨aload_okD _ _ _ rfl (fun _ => rfl) (by omega) (by omega), ?_⟩
    | refine ⟨astore_ok (by assumption) rfl (by omega) (by omega) (by decide), ?_⟩
    | refine ⟨app_ok (by assumption) rfl rfl (by simp only [List.length_cons, List.length_nil]; omega), ?_⟩
    | refine need_holds ?_ fun _ => ?_
    | refine all_holds fun y hy => ?_
    | refine ret_le ?_
  all_goals refine RR.le_of_eq ?_
  · show _ = rins (atS p.ins i)
    unfold atS; rw [if_pos (.inl ‹_›)]; rfl
  · show _ = rins (atS p.ins i)
    unfold atS; rw [if_pos (.inr ‹_›)]; rfl
  · show _ = rins (atS p.ins i)
    unfold atS; rw [if_neg (by omega)]; rfl
noncomputable def v_rAt : Prg × Int → Ins := fun x => atS x.1.ins x.2
noncomputable def sh_rAt : Ins → RR := fun i => rins i
theorem e_rAt (x : Prg × Int) : sh_rAt (v_rAt x) = c_rAt.ans x := rfl
structure Regs where
  r0 : Int
  r1 : Int
  r2 : Int
  r3 : Int
  deriving Inhabited
def Regs.get (s : Regs) (r : Int) : Int := if r = 0 then s.r0 else if r = 1 then s.r1 else if r = 2 then s.r2 else s.r3
def aRegs (g : Regs) : A := .agg [.int .i64 g.r0, .int .i64 g.r1, .int .i64 g.r2, .int .i64 g.r3]
def rdPRV : List A → Prg × Regs × Bool × Int
  | [.agg l, .agg [.int _ a, .int _ b, .int _ c, .int _ d], .agg [.bool r, .int _ i]] => (Prg.of l, ⟨a, b, c, d⟩, r, i)
  | _ => default
def valR (w : Int) (g : Regs) (r : Bool) (n : Int) : Int := if r then g.get (n % 4) else maskS w n
def c_rVal : FT (Prg × Regs × Bool × Int) := ⟨71, fun x => [ap x.1, aRegs x.2.1, aVal x.2.2.1 x.2.2.2], rdPRV, fun _ => True, fun x => ri (valR x.1.w x.2.1 x.2.2.1 x.2.2.2), false, fun x => by simp [ap, aRegs, aVal, rdPRV]⟩
noncomputable def a_rVal : FnA := (fnA Try.prog Try.f71 3 []).getD ⟨0, .skip, [], []⟩
def s_rVal : Sp := spT [c_rMask.fe]
theorem s_rVal_sound : s_rVal.sound Try.prog := spT_sound fun e he => by
  simp only [List.mem_cons, List.not_mem_nil, or_false] at he
  rcases he with rfl
  · exact c_rMask_good
set_option maxRecDepth 100000 in
theorem t_rVal (p : Prg) (g : Regs) (r : Bool) (n : Int) : a_rVal.start s_rVal 400 [ap p, aRegs g, aVal r n] =
(VC.br (r)
 (VC.br (decide (bits BinOp.and IntKind.i64 n (3 : Int) = (0 : Int)))
  (VC.ret (some (RR.c (Rc.d (D.int IntKind.i64 g.r0)))))
  (VC.br (decide (bits BinOp.and IntKind.i64 n (3 : Int) = (1 : Int)))
   (VC.ret (some (RR.c (Rc.d (D.int IntKind.i64 g.r1)))))
   (VC.br (decide (bits BinOp.and IntKind.i64 n (3 : Int) = (2 : Int)))
    (VC.ret (some (RR.c (Rc.d (D.int IntKind.i64 g.r2)))))
    (VC.br (decide (bits BinOp.and IntKind.i64 n (3 : Int) = (3 : Int)))
     (VC.ret (some (RR.c (Rc.d (D.int IntKind.i64 g.r3)))))
     VC.ff))))
 (VC.need (PreOk c_rMask (p.w, n) [A.c (D.int IntKind.i64 p.w), A.c (D.int IntKind.i64 n)])
 (VC.ret (some (RR.c (Rc.d (D.int IntKind.i64 (maskS p.w n)))))))) := by kernel_rfl
theorem c_rVal_good : c_rVal.fe.Good Try.prog := by
  refine FT.good c_rVal ⟨Try.f71, by kernel_rfl, by decide +kernel, by kernel_rfl⟩ (fun ⟨p, g, r, n⟩ => by first | rfl | simp [c_rVal, rrRef, rrun, rstep, rins, rnum, rby, rss, rnewI, rnewE, rstab, rplaces, ri, rb, rib, Sta.fresh]) fun ⟨p, g, r, n⟩ hp => ?_
  refine acalls_le s_rVal_sound (fn := Try.f71) (a := a_rVal) (nargs := 3) (tbl := []) (by kernel_rfl) (by kernel_rfl) rfl (m := 400) ?_
  show VC.holds _ _ _ (a_rVal.start s_rVal 400 [ap p, aRegs g, aVal r n])
  rw [t_rVal]
  try simp only [asRows_sl, asInt_int, asBool_bool, asStr_str, listOf_rowsOn, List.drop_zero, Prg.eta, Sta.eta, rowsOn_length, getD_drop, Nat.reduceAdd, rd_int, rd_PMem_name, rd_PMem_secret, rd_PMem_n, rd_PLabel_name, rd_PLabel_at_, rd_Ins_kind, rd_Ins_op, rd_Ins_d, rd_Ins_aR, rd_Ins_aN, rd_Ins_bR, rd_Ins_bN, rd_Ins_name, rd_Ins_target, rd_Ent_pc, rd_Ent_val, rd_Ent_addr, rd_Ent_fro, rd_Ent_next, rd_Ent_done, rd_Ent_known, rd_Ent_fault, rd_Place_reg, rd_Place_n, rd_Place_secret, rd_Obs_kind, rd_Obs_at_, rd_Dir_kind, rd_Dir_n, Prg.of_cells, Sta.of_cells]
  try simp only [c_rVal] at hp
  simp only [and3]
  repeat' first
    | refine br_not ?_
    | refine br_dec (fun _ => ?_) (fun _ => ?_)
    | refine br_beq (fun _ => ?_) (fun _ => ?_)
    | refine br_bne (fun _ => ?_) (fun _ => ?_)
    | refine br_holds (fun _ => ?_) (fun _ => ?_)
    | refine ⟨PreOk.mk ?_ rfl, ?_⟩
    | refine ⟨idx_ok _ _ _ rfl (by omega) (by omega), ?_⟩
    | refine ⟨okSh_ok _ _ _ (fun _ => rfl) (by omega) (by omega), ?_⟩
    | refine ⟨okSh_okD _ _ _ _ (fun _ => rfl) (by omega) (by omega), ?_⟩
    | refine ⟨aload_ok _ _ rfl (fun _ => rfl) (by omega) (by omega), ?_⟩
    | refine ⟨aload_okD _ _ _ rfl (fun _ => rfl) (by omega) (by omega), ?_⟩
    | refine ⟨astore_ok (by assumption) rfl (by omega) (by omega) (by decide), ?_⟩
    | refine ⟨app_ok (by assumption) rfl rfl (by simp only [List.length_cons, List.length_nil]; omega), ?_⟩
    | refine need_holds ?_ fun _ => ?_
    | refine all_holds fun y hy => ?_
    | refine ret_le ?_
  all_goals try exact trivial
  all_goals try (exfalso; omega)
  all_goals refine RR.le_of_eq ?_
  all_goals simp [c_rVal, valR, Regs.get, ri, *]
noncomputable def v_rVal : Prg × Regs × Bool × Int → Int := fun x => valR x.1.w x.2.1 x.2.2.1 x.2.2.2
noncomputable def sh_rVal : Int → RR := fun i => ri i
theorem e_rVal (x : Prg × Regs × Bool × Int) : sh_rVal (v_rVal x) = c_rVal.ans x := rfl
def c_rJump : FT (Prg × Int) := ⟨73, fun x => [ap x.1, ai x.2], rdPI, fun _ => True, fun x => ri (min x.2 x.1.ins.length), false, fun x => by simp [ap, ai, rdPI]⟩
noncomputable def a_rJump : FnA := (fnA Try.prog Try.f73 2 []).getD ⟨0, .skip, [], []⟩
def s_rJump : Sp := spT []
theorem s_rJump_sound : s_rJump.sound Try.prog := spT_sound fun e he => by cases he
set_option maxRecDepth 100000 in
theorem t_rJump (p : Prg) (i : Int) : a_rJump.start s_rJump 400 [ap p, ai i] =
(VC.ret (some (RR.c (Rc.d (D.int IntKind.i64 (min i (↑(List.length (rowsOn p.ins)) : Int))))))) := by kernel_rfl
theorem c_rJump_good : c_rJump.fe.Good Try.prog := by
  refine FT.good c_rJump ⟨Try.f73, by kernel_rfl, by decide +kernel, by kernel_rfl⟩ (fun ⟨p, i⟩ => by first | rfl | simp [c_rJump, rrRef, rrun, rstep, rins, rnum, rby, rss, rnewI, rnewE, rstab, rplaces, ri, rb, rib, Sta.fresh]) fun ⟨p, i⟩ hp => ?_
  refine acalls_le s_rJump_sound (fn := Try.f73) (a := a_rJump) (nargs := 2) (tbl := []) (by kernel_rfl) (by kernel_rfl) rfl (m := 400) ?_
  show VC.holds _ _ _ (a_rJump.start s_rJump 400 [ap p, ai i])
  rw [t_rJump]
  try simp only [asRows_sl, asInt_int, asBool_bool, asStr_str, listOf_rowsOn, List.drop_zero, Prg.eta, Sta.eta, rowsOn_length, getD_drop, Nat.reduceAdd, rd_int, rd_PMem_name, rd_PMem_secret, rd_PMem_n, rd_PLabel_name, rd_PLabel_at_, rd_Ins_kind, rd_Ins_op, rd_Ins_d, rd_Ins_aR, rd_Ins_aN, rd_Ins_bR, rd_Ins_bN, rd_Ins_name, rd_Ins_target, rd_Ent_pc, rd_Ent_val, rd_Ent_addr, rd_Ent_fro, rd_Ent_next, rd_Ent_done, rd_Ent_known, rd_Ent_fault, rd_Place_reg, rd_Place_n, rd_Place_secret, rd_Obs_kind, rd_Obs_at_, rd_Dir_kind, rd_Dir_n, Prg.of_cells, Sta.of_cells]
  try simp only [c_rJump] at hp
  repeat' first
    | refine br_not ?_
    | refine br_dec (fun _ => ?_) (fun _ => ?_)
    | refine br_beq (fun _ => ?_) (fun _ => ?_)
    | refine br_bne (fun _ => ?_) (fun _ => ?_)
    | refine br_holds (fun _ => ?_) (fun _ => ?_)
    | refine ⟨PreOk.mk ?_ rfl, ?_⟩
    | refine ⟨idx_ok _ _ _ rfl (by omega) (by omega), ?_⟩
    | refine ⟨okSh_ok _ _ _ (fun _ => rfl) (by omega) (by omega), ?_⟩
    | refine ⟨okSh_okD _ _ _ _ (fun _ => rfl) (by omega) (by omega), ?_⟩
    | refine ⟨aload_ok _ _ rfl (fun _ => rfl) (by omega) (by omega), ?_⟩
    | refine ⟨aload_okD _ _ _ rfl (fun _ => rfl) (by omega) (by omega), ?_⟩
    | refine ⟨astore_ok (by assumption) rfl (by omega) (by omega) (by decide), ?_⟩
    | refine ⟨app_ok (by assumption) rfl rfl (by simp only [List.length_cons, List.length_nil]; omega), ?_⟩
    | refine need_holds ?_ fun _ => ?_
    | refine all_holds fun y hy => ?_
    | refine ret_le ?_
  exact RR.le_of_eq (by simp [c_rJump, ri, Int.min_comm])
noncomputable def v_rJump : Prg × Int → Int := fun x => min x.2 x.1.ins.length
noncomputable def sh_rJump : Int → RR := fun i => ri i
theorem e_rJump (x : Prg × Int) : sh_rJump (v_rJump x) = c_rJump.ans x := rfl
noncomputable def v_rMask : Int × Int → Int := fun x => maskS x.1 x.2
noncomputable def sh_rMask : Int → RR := fun i => ri i
theorem e_rMask (x : Int × Int) : sh_rMask (v_rMask x) = c_rMask.ans x := rfl
noncomputable def v_rDo : Int × Int × Int × Int → Int × Bool := fun x => doS x.1 x.2.1 x.2.2.1 x.2.2.2
noncomputable def sh_rDo : Int × Bool → RR := fun i => rib i
theorem e_rDo (x : Int × Int × Int × Int) : sh_rDo (v_rDo x) = c_rDo.ans x := rfl
noncomputable def a_rStep : FnA := (fnA Try.prog Try.f33 2 []).getD ⟨0, .skip, [], []⟩
noncomputable def s_rStep : Sp := spT [c_rAt.gfe v_rAt sh_rAt e_rAt, c_rVal.gfe v_rVal sh_rVal e_rVal, c_rMask.gfe v_rMask sh_rMask e_rMask, c_rDo.gfe v_rDo sh_rDo e_rDo, c_rJump.gfe v_rJump sh_rJump e_rJump]
theorem s_rStep_sound : s_rStep.sound Try.prog := spT_sound fun e he => by
  simp only [List.mem_cons, List.not_mem_nil, or_false] at he
  rcases he with rfl | rfl | rfl | rfl | rfl
  · exact FT.gfe_good c_rAt_good
  · exact FT.gfe_good c_rVal_good
  · exact FT.gfe_good c_rMask_good
  · exact FT.gfe_good c_rDo_good
  · exact FT.gfe_good c_rJump_good
set_option maxRecDepth 100000 in
theorem t_rStep (p : Prg) (s : Sta) : a_rStep.start s_rStep 400 [ap p, as_ s] =
(VC.need (PreOk c_rAt (Prg.of (Prg.cells p), s.pc) [A.agg (Prg.cells p), A.c (D.int IntKind.i64 s.pc)])
(VC.all (v_rAt (Prg.of (Prg.cells p), s.pc)) fun (y2 : Ins) =>
(VC.need (PreOk c_rVal (Prg.of (Prg.cells p), { r0 := s.r0, r1 := s.r1, r2 := s.r2, r3 := s.r3 }, y2.aR, y2.aN) [A.agg (Prg.cells p), A.agg [D.int IntKind.i64 s.r0, D.int IntKind.i64 s.r1, D.int IntKind.i64 s.r2, D.int IntKind.i64 s.r3], A.agg [D.bool y2.aR, D.int IntKind.i64 y2.aN]])
(VC.all (v_rVal (Prg.of (Prg.cells p), { r0 := s.r0, r1 := s.r1, r2 := s.r2, r3 := s.r3 }, y2.aR, y2.aN)) fun (y3 : Int) =>
(VC.need (PreOk c_rVal (Prg.of (Prg.cells p), { r0 := s.r0, r1 := s.r1, r2 := s.r2, r3 := s.r3 }, y2.bR, y2.bN) [A.agg (Prg.cells p), A.agg [D.int IntKind.i64 s.r0, D.int IntKind.i64 s.r1, D.int IntKind.i64 s.r2, D.int IntKind.i64 s.r3], A.agg [D.bool y2.bR, D.int IntKind.i64 y2.bN]])
(VC.all (v_rVal (Prg.of (Prg.cells p), { r0 := s.r0, r1 := s.r1, r2 := s.r2, r3 := s.r3 }, y2.bR, y2.bN)) fun (y4 : Int) =>
(VC.need ((List.all (rowsOn s.mem) fun r ↦ List.length r == (1 : Nat)) = true ∧ (List.all ([] : List (List D)) fun r ↦ List.length r == (1 : Nat)) = true ∧ ((0 : Nat) + List.length (rowsOn s.mem) + (100 : Nat)) * (9 : Nat) ≤ (70368744177664 : Nat))
(VC.need ((List.all (rowsOn s.stack) fun r ↦ List.length r == (1 : Nat)) = true ∧ (List.all ([] : List (List D)) fun r ↦ List.length r == (1 : Nat)) = true ∧ ((0 : Nat) + List.length (rowsOn s.stack) + (100 : Nat)) * (9 : Nat) ≤ (70368744177664 : Nat))
(VC.need (PreOk c_rMask (p.w, IntKind.wrap IntKind.i64 (y3 + y4)) [A.c (D.int IntKind.i64 p.w), A.c (D.int IntKind.i64 (IntKind.wrap IntKind.i64 (y3 + y4)))])
(VC.all (v_rMask (p.w, IntKind.wrap IntKind.i64 (y3 + y4))) fun (y5 : Int) =>
(VC.br (y2.kind == (1 : Int))
 (VC.need (PreOk c_rDo (p.w, y2.op, y3, y4) [A.c (D.int IntKind.i64 p.w), A.c (D.int IntKind.i64 y2.op), A.c (D.int IntKind.i64 y3), A.c (D.int IntKind.i64 y4)])
 (VC.all (v_rDo (p.w, y2.op, y3, y4)) fun (y6 : Int × Bool) =>
 (VC.br (decide (bits BinOp.and IntKind.i64 y2.d (3 : Int) = (0 : Int)))
  (VC.ret (some (RR.tup [Sum.inr [Rc.d (D.int IntKind.i64 y6.fst), Rc.d (D.int IntKind.i64 s.r1), Rc.d (D.int IntKind.i64 s.r2), Rc.d (D.int IntKind.i64 s.r3), Rc.new (1 : Nat) ([] ++ rowsOn s.mem), Rc.new (1 : Nat) ([] ++ rowsOn s.stack), Rc.d (D.int IntKind.i64 (IntKind.wrap IntKind.i64 (s.pc + (1 : Int))))], Sum.inl Rc.nil, Sum.inl (Rc.d (D.int IntKind.i64 (0 : Int)))])))
  (VC.br (decide (bits BinOp.and IntKind.i64 y2.d (3 : Int) = (1 : Int)))
   (VC.ret (some (RR.tup [Sum.inr [Rc.d (D.int IntKind.i64 s.r0), Rc.d (D.int IntKind.i64 y6.fst), Rc.d (D.int IntKind.i64 s.r2), Rc.d (D.int IntKind.i64 s.r3), Rc.new (1 : Nat) ([] ++ rowsOn s.mem), Rc.new (1 : Nat) ([] ++ rowsOn s.stack), Rc.d (D.int IntKind.i64 (IntKind.wrap IntKind.i64 (s.pc + (1 : Int))))], Sum.inl Rc.nil, Sum.inl (Rc.d (D.int IntKind.i64 (0 : Int)))])))
   (VC.br (decide (bits BinOp.and IntKind.i64 y2.d (3 : Int) = (2 : Int)))
    (VC.ret (some (RR.tup [Sum.inr [Rc.d (D.int IntKind.i64 s.r0), Rc.d (D.int IntKind.i64 s.r1), Rc.d (D.int IntKind.i64 y6.fst), Rc.d (D.int IntKind.i64 s.r3), Rc.new (1 : Nat) ([] ++ rowsOn s.mem), Rc.new (1 : Nat) ([] ++ rowsOn s.stack), Rc.d (D.int IntKind.i64 (IntKind.wrap IntKind.i64 (s.pc + (1 : Int))))], Sum.inl Rc.nil, Sum.inl (Rc.d (D.int IntKind.i64 (0 : Int)))])))
    (VC.br (decide (bits BinOp.and IntKind.i64 y2.d (3 : Int) = (3 : Int)))
     (VC.ret (some (RR.tup [Sum.inr [Rc.d (D.int IntKind.i64 s.r0), Rc.d (D.int IntKind.i64 s.r1), Rc.d (D.int IntKind.i64 s.r2), Rc.d (D.int IntKind.i64 y6.fst), Rc.new (1 : Nat) ([] ++ rowsOn s.mem), Rc.new (1 : Nat) ([] ++ rowsOn s.stack), Rc.d (D.int IntKind.i64 (IntKind.wrap IntKind.i64 (s.pc + (1 : Int))))], Sum.inl Rc.nil, Sum.inl (Rc.d (D.int IntKind.i64 (0 : Int)))])))
     VC.ff))))))
 (VC.br (y2.kind == (4 : Int))
  (VC.br (y3 != (0 : Int))
   (VC.br (decide (bits BinOp.and IntKind.i64 y2.d (3 : Int) = (0 : Int)))
    (VC.ret (some (RR.tup [Sum.inr [Rc.d (D.int IntKind.i64 y4), Rc.d (D.int IntKind.i64 s.r1), Rc.d (D.int IntKind.i64 s.r2), Rc.d (D.int IntKind.i64 s.r3), Rc.new (1 : Nat) ([] ++ rowsOn s.mem), Rc.new (1 : Nat) ([] ++ rowsOn s.stack), Rc.d (D.int IntKind.i64 (IntKind.wrap IntKind.i64 (s.pc + (1 : Int))))], Sum.inl Rc.nil, Sum.inl (Rc.d (D.int IntKind.i64 (0 : Int)))])))
    (VC.br (decide (bits BinOp.and IntKind.i64 y2.d (3 : Int) = (1 : Int)))
     (VC.ret (some (RR.tup [Sum.inr [Rc.d (D.int IntKind.i64 s.r0), Rc.d (D.int IntKind.i64 y4), Rc.d (D.int IntKind.i64 s.r2), Rc.d (D.int IntKind.i64 s.r3), Rc.new (1 : Nat) ([] ++ rowsOn s.mem), Rc.new (1 : Nat) ([] ++ rowsOn s.stack), Rc.d (D.int IntKind.i64 (IntKind.wrap IntKind.i64 (s.pc + (1 : Int))))], Sum.inl Rc.nil, Sum.inl (Rc.d (D.int IntKind.i64 (0 : Int)))])))
     (VC.br (decide (bits BinOp.and IntKind.i64 y2.d (3 : Int) = (2 : Int)))
      (VC.ret (some (RR.tup [Sum.inr [Rc.d (D.int IntKind.i64 s.r0), Rc.d (D.int IntKind.i64 s.r1), Rc.d (D.int IntKind.i64 y4), Rc.d (D.int IntKind.i64 s.r3), Rc.new (1 : Nat) ([] ++ rowsOn s.mem), Rc.new (1 : Nat) ([] ++ rowsOn s.stack), Rc.d (D.int IntKind.i64 (IntKind.wrap IntKind.i64 (s.pc + (1 : Int))))], Sum.inl Rc.nil, Sum.inl (Rc.d (D.int IntKind.i64 (0 : Int)))])))
      (VC.br (decide (bits BinOp.and IntKind.i64 y2.d (3 : Int) = (3 : Int)))
       (VC.ret (some (RR.tup [Sum.inr [Rc.d (D.int IntKind.i64 s.r0), Rc.d (D.int IntKind.i64 s.r1), Rc.d (D.int IntKind.i64 s.r2), Rc.d (D.int IntKind.i64 y4), Rc.new (1 : Nat) ([] ++ rowsOn s.mem), Rc.new (1 : Nat) ([] ++ rowsOn s.stack), Rc.d (D.int IntKind.i64 (IntKind.wrap IntKind.i64 (s.pc + (1 : Int))))], Sum.inl Rc.nil, Sum.inl (Rc.d (D.int IntKind.i64 (0 : Int)))])))
       VC.ff))))
   (VC.ret (some (RR.tup [Sum.inr [Rc.d (D.int IntKind.i64 s.r0), Rc.d (D.int IntKind.i64 s.r1), Rc.d (D.int IntKind.i64 s.r2), Rc.d (D.int IntKind.i64 s.r3), Rc.new (1 : Nat) ([] ++ rowsOn s.mem), Rc.new (1 : Nat) ([] ++ rowsOn s.stack), Rc.d (D.int IntKind.i64 (IntKind.wrap IntKind.i64 (s.pc + (1 : Int))))], Sum.inl Rc.nil, Sum.inl (Rc.d (D.int IntKind.i64 (0 : Int)))]))))
  (VC.br (y2.kind == (2 : Int))
   (VC.br (decide ((↑(List.length (rowsOn s.mem)) : Int) ≤ y5))
    (VC.ret (some (RR.tup [Sum.inr [Rc.d (D.int IntKind.i64 s.r0), Rc.d (D.int IntKind.i64 s.r1), Rc.d (D.int IntKind.i64 s.r2), Rc.d (D.int IntKind.i64 s.r3), Rc.d (D.sl (rowsOn s.mem)), Rc.d (D.sl (rowsOn s.stack)), Rc.d (D.int IntKind.i64 s.pc)], Sum.inl Rc.nil, Sum.inl (Rc.d (D.int IntKind.i64 (2 : Int)))])))
    (VC.need ((0 : Int) ≤ y5 ∧ y5 < (↑(List.length (rowsOn s.mem)) : Int) ∧ List.length (rowAt (rowsOn s.mem) (Int.toNat y5)) = (1 : Nat))
    (VC.need (okSh [Kd.int IntKind.i64] (rowAt (rowsOn s.mem) (Int.toNat y5)))
    (VC.br (decide (bits BinOp.and IntKind.i64 y2.d (3 : Int) = (0 : Int)))
     (VC.ret (some (RR.tup [Sum.inr [Rc.d (D.int IntKind.i64 (asInt (List.getD (rowAt (rowsOn s.mem) (Int.toNat y5)) (0 : Nat) D.nilp))), Rc.d (D.int IntKind.i64 s.r1), Rc.d (D.int IntKind.i64 s.r2), Rc.d (D.int IntKind.i64 s.r3), Rc.new (1 : Nat) ([] ++ rowsOn s.mem), Rc.new (1 : Nat) ([] ++ rowsOn s.stack), Rc.d (D.int IntKind.i64 (IntKind.wrap IntKind.i64 (s.pc + (1 : Int))))], Sum.inl (Rc.new (2 : Nat) [[D.int IntKind.i64 (1 : Int), D.int IntKind.i64 y5]]), Sum.inl (Rc.d (D.int IntKind.i64 (0 : Int)))])))
     (VC.br (decide (bits BinOp.and IntKind.i64 y2.d (3 : Int) = (1 : Int)))
      (VC.ret (some (RR.tup [Sum.inr [Rc.d (D.int IntKind.i64 s.r0), Rc.d (D.int IntKind.i64 (asInt (List.getD (rowAt (rowsOn s.mem) (Int.toNat y5)) (0 : Nat) D.nilp))), Rc.d (D.int IntKind.i64 s.r2), Rc.d (D.int IntKind.i64 s.r3), Rc.new (1 : Nat) ([] ++ rowsOn s.mem), Rc.new (1 : Nat) ([] ++ rowsOn s.stack), Rc.d (D.int IntKind.i64 (IntKind.wrap IntKind.i64 (s.pc + (1 : Int))))], Sum.inl (Rc.new (2 : Nat) [[D.int IntKind.i64 (1 : Int), D.int IntKind.i64 y5]]), Sum.inl (Rc.d (D.int IntKind.i64 (0 : Int)))])))
      (VC.br (decide (bits BinOp.and IntKind.i64 y2.d (3 : Int) = (2 : Int)))
       (VC.ret (some (RR.tup [Sum.inr [Rc.d (D.int IntKind.i64 s.r0), Rc.d (D.int IntKind.i64 s.r1), Rc.d (D.int IntKind.i64 (asInt (List.getD (rowAt (rowsOn s.mem) (Int.toNat y5)) (0 : Nat) D.nilp))), Rc.d (D.int IntKind.i64 s.r3), Rc.new (1 : Nat) ([] ++ rowsOn s.mem), Rc.new (1 : Nat) ([] ++ rowsOn s.stack), Rc.d (D.int IntKind.i64 (IntKind.wrap IntKind.i64 (s.pc + (1 : Int))))], Sum.inl (Rc.new (2 : Nat) [[D.int IntKind.i64 (1 : Int), D.int IntKind.i64 y5]]), Sum.inl (Rc.d (D.int IntKind.i64 (0 : Int)))])))
       (VC.br (decide (bits BinOp.and IntKind.i64 y2.d (3 : Int) = (3 : Int)))
        (VC.ret (some (RR.tup [Sum.inr [Rc.d (D.int IntKind.i64 s.r0), Rc.d (D.int IntKind.i64 s.r1), Rc.d (D.int IntKind.i64 s.r2), Rc.d (D.int IntKind.i64 (asInt (List.getD (rowAt (rowsOn s.mem) (Int.toNat y5)) (0 : Nat) D.nilp))), Rc.new (1 : Nat) ([] ++ rowsOn s.mem), Rc.new (1 : Nat) ([] ++ rowsOn s.stack), Rc.d (D.int IntKind.i64 (IntKind.wrap IntKind.i64 (s.pc + (1 : Int))))], Sum.inl (Rc.new (2 : Nat) [[D.int IntKind.i64 (1 : Int), D.int IntKind.i64 y5]]), Sum.inl (Rc.d (D.int IntKind.i64 (0 : Int)))])))
        VC.ff)))))))
   (VC.br (y2.kind == (3 : Int))
    (VC.br (decide ((↑(List.length (rowsOn s.mem)) : Int) ≤ y5))
     (VC.ret (some (RR.tup [Sum.inr [Rc.d (D.int IntKind.i64 s.r0), Rc.d (D.int IntKind.i64 s.r1), Rc.d (D.int IntKind.i64 s.r2), Rc.d (D.int IntKind.i64 s.r3), Rc.d (D.sl (rowsOn s.mem)), Rc.d (D.sl (rowsOn s.stack)), Rc.d (D.int IntKind.i64 s.pc)], Sum.inl Rc.nil, Sum.inl (Rc.d (D.int IntKind.i64 (2 : Int)))])))
     (VC.br (decide (bits BinOp.and IntKind.i64 y2.d (3 : Int) = (0 : Int)))
      (VC.need ((0 : Int) ≤ y5 ∧ y5 < (↑((0 : Nat) + List.length (rowsOn s.mem)) : Int))
      (VC.need (Int.toNat y5 < List.length ([] ++ rowsOn s.mem) ∧ List.length (rowAt ([] ++ rowsOn s.mem) (Int.toNat y5)) = (1 : Nat) ∧ (1 : Nat) ≤ (1 : Nat))
      (VC.ret (some (RR.tup [Sum.inr [Rc.d (D.int IntKind.i64 s.r0), Rc.d (D.int IntKind.i64 s.r1), Rc.d (D.int IntKind.i64 s.r2), Rc.d (D.int IntKind.i64 s.r3), Rc.new (1 : Nat) (List.set ([] ++ rowsOn s.mem) (Int.toNat y5) (splice (rowAt ([] ++ rowsOn s.mem) (Int.toNat y5)) (0 : Nat) [D.int IntKind.i64 s.r0])), Rc.new (1 : Nat) ([] ++ rowsOn s.stack), Rc.d (D.int IntKind.i64 (IntKind.wrap IntKind.i64 (s.pc + (1 : Int))))], Sum.inl (Rc.new (2 : Nat) [[D.int IntKind.i64 (2 : Int), D.int IntKind.i64 y5]]), Sum.inl (Rc.d (D.int IntKind.i64 (0 : Int)))])))))
      (VC.br (decide (bits BinOp.and IntKind.i64 y2.d (3 : Int) = (1 : Int)))
       (VC.need ((0 : Int) ≤ y5 ∧ y5 < (↑((0 : Nat) + List.length (rowsOn s.mem)) : Int))
       (VC.need (Int.toNat y5 < List.length ([] ++ rowsOn s.mem) ∧ List.length (rowAt ([] ++ rowsOn s.mem) (Int.toNat y5)) = (1 : Nat) ∧ (1 : Nat) ≤ (1 : Nat))
       (VC.ret (some (RR.tup [Sum.inr [Rc.d (D.int IntKind.i64 s.r0), Rc.d (D.int IntKind.i64 s.r1), Rc.d (D.int IntKind.i64 s.r2), Rc.d (D.int IntKind.i64 s.r3), Rc.new (1 : Nat) (List.set ([] ++ rowsOn s.mem) (Int.toNat y5) (splice (rowAt ([] ++ rowsOn s.mem) (Int.toNat y5)) (0 : Nat) [D.int IntKind.i64 s.r1])), Rc.new (1 : Nat) ([] ++ rowsOn s.stack), Rc.d (D.int IntKind.i64 (IntKind.wrap IntKind.i64 (s.pc + (1 : Int))))], Sum.inl (Rc.new (2 : Nat) [[D.int IntKind.i64 (2 : Int), D.int IntKind.i64 y5]]), Sum.inl (Rc.d (D.int IntKind.i64 (0 : Int)))])))))
       (VC.br (decide (bits BinOp.and IntKind.i64 y2.d (3 : Int) = (2 : Int)))
        (VC.need ((0 : Int) ≤ y5 ∧ y5 < (↑((0 : Nat) + List.length (rowsOn s.mem)) : Int))
        (VC.need (Int.toNat y5 < List.length ([] ++ rowsOn s.mem) ∧ List.length (rowAt ([] ++ rowsOn s.mem) (Int.toNat y5)) = (1 : Nat) ∧ (1 : Nat) ≤ (1 : Nat))
        (VC.ret (some (RR.tup [Sum.inr [Rc.d (D.int IntKind.i64 s.r0), Rc.d (D.int IntKind.i64 s.r1), Rc.d (D.int IntKind.i64 s.r2), Rc.d (D.int IntKind.i64 s.r3), Rc.new (1 : Nat) (List.set ([] ++ rowsOn s.mem) (Int.toNat y5) (splice (rowAt ([] ++ rowsOn s.mem) (Int.toNat y5)) (0 : Nat) [D.int IntKind.i64 s.r2])), Rc.new (1 : Nat) ([] ++ rowsOn s.stack), Rc.d (D.int IntKind.i64 (IntKind.wrap IntKind.i64 (s.pc + (1 : Int))))], Sum.inl (Rc.new (2 : Nat) [[D.int IntKind.i64 (2 : Int), D.int IntKind.i64 y5]]), Sum.inl (Rc.d (D.int IntKind.i64 (0 : Int)))])))))
        (VC.br (decide (bits BinOp.and IntKind.i64 y2.d (3 : Int) = (3 : Int)))
         (VC.need ((0 : Int) ≤ y5 ∧ y5 < (↑((0 : Nat) + List.length (rowsOn s.mem)) : Int))
         (VC.need (Int.toNat y5 < List.length ([] ++ rowsOn s.mem) ∧ List.length (rowAt ([] ++ rowsOn s.mem) (Int.toNat y5)) = (1 : Nat) ∧ (1 : Nat) ≤ (1 : Nat))
         (VC.ret (some (RR.tup [Sum.inr [Rc.d (D.int IntKind.i64 s.r0), Rc.d (D.int IntKind.i64 s.r1), Rc.d (D.int IntKind.i64 s.r2), Rc.d (D.int IntKind.i64 s.r3), Rc.new (1 : Nat) (List.set ([] ++ rowsOn s.mem) (Int.toNat y5) (splice (rowAt ([] ++ rowsOn s.mem) (Int.toNat y5)) (0 : Nat) [D.int IntKind.i64 s.r3])), Rc.new (1 : Nat) ([] ++ rowsOn s.stack), Rc.d (D.int IntKind.i64 (IntKind.wrap IntKind.i64 (s.pc + (1 : Int))))], Sum.inl (Rc.new (2 : Nat) [[D.int IntKind.i64 (2 : Int), D.int IntKind.i64 y5]]), Sum.inl (Rc.d (D.int IntKind.i64 (0 : Int)))])))))
         VC.ff)))))
    (VC.br (y2.kind == (5 : Int))
     (VC.need (PreOk c_rDo (p.w, y2.op, y3, y4) [A.c (D.int IntKind.i64 p.w), A.c (D.int IntKind.i64 y2.op), A.c (D.int IntKind.i64 y3), A.c (D.int IntKind.i64 y4)])
     (VC.all (v_rDo (p.w, y2.op, y3, y4)) fun (y6 : Int × Bool) =>
     (VC.br (y6.fst != (0 : Int))
      (VC.ret (some (RR.tup [Sum.inr [Rc.d (D.int IntKind.i64 s.r0), Rc.d (D.int IntKind.i64 s.r1), Rc.d (D.int IntKind.i64 s.r2), Rc.d (D.int IntKind.i64 s.r3), Rc.new (1 : Nat) ([] ++ rowsOn s.mem), Rc.new (1 : Nat) ([] ++ rowsOn s.stack), Rc.d (D.int IntKind.i64 y2.target)], Sum.inl (Rc.new (2 : Nat) [[D.int IntKind.i64 (3 : Int), D.int IntKind.i64 y2.target]]), Sum.inl (Rc.d (D.int IntKind.i64 (0 : Int)))])))
      (VC.ret (some (RR.tup [Sum.inr [Rc.d (D.int IntKind.i64 s.r0), Rc.d (D.int IntKind.i64 s.r1), Rc.d (D.int IntKind.i64 s.r2), Rc.d (D.int IntKind.i64 s.r3), Rc.new (1 : Nat) ([] ++ rowsOn s.mem), Rc.new (1 : Nat) ([] ++ rowsOn s.stack), Rc.d (D.int IntKind.i64 (IntKind.wrap IntKind.i64 (s.pc + (1 : Int))))], Sum.inl (Rc.new (2 : Nat) [[D.int IntKind.i64 (3 : Int), D.int IntKind.i64 (IntKind.wrap IntKind.i64 (s.pc + (1 : Int)))]]), Sum.inl (Rc.d (D.int IntKind.i64 (0 : Int)))]))))))
     (VC.br (y2.kind == (6 : Int))
      (VC.ret (some (RR.tup [Sum.inr [Rc.d (D.int IntKind.i64 s.r0), Rc.d (D.int IntKind.i64 s.r1), Rc.d (D.int IntKind.i64 s.r2), Rc.d (D.int IntKind.i64 s.r3), Rc.new (1 : Nat) ([] ++ rowsOn s.mem), Rc.new (1 : Nat) ([] ++ rowsOn s.stack), Rc.d (D.int IntKind.i64 y2.target)], Sum.inl Rc.nil, Sum.inl (Rc.d (D.int IntKind.i64 (0 : Int)))])))
      (VC.br (y2.kind == (7 : Int))
       (VC.need (PreOk c_rJump (Prg.of (Prg.cells p), y3) [A.agg (Prg.cells p), A.c (D.int IntKind.i64 y3)])
       (VC.all (v_rJump (Prg.of (Prg.cells p), y3)) fun (y6 : Int) =>
       (VC.ret (some (RR.tup [Sum.inr [Rc.d (D.int IntKind.i64 s.r0), Rc.d (D.int IntKind.i64 s.r1), Rc.d (D.int IntKind.i64 s.r2), Rc.d (D.int IntKind.i64 s.r3), Rc.new (1 : Nat) ([] ++ rowsOn s.mem), Rc.new (1 : Nat) ([] ++ rowsOn s.stack), Rc.d (D.int IntKind.i64 y6)], Sum.inl (Rc.new (2 : Nat) [[D.int IntKind.i64 (3 : Int), D.int IntKind.i64 y6]]), Sum.inl (Rc.d (D.int IntKind.i64 (0 : Int)))])))))
       (VC.br (y2.kind == (8 : Int))
        (VC.br (decide ((4 : Int) ≤ (↑(List.length (rowsOn s.stack)) : Int)))
         (VC.ret (some (RR.tup [Sum.inr [Rc.d (D.int IntKind.i64 s.r0), Rc.d (D.int IntKind.i64 s.r1), Rc.d (D.int IntKind.i64 s.r2), Rc.d (D.int IntKind.i64 s.r3), Rc.d (D.sl (rowsOn s.mem)), Rc.d (D.sl (rowsOn s.stack)), Rc.d (D.int IntKind.i64 s.pc)], Sum.inl Rc.nil, Sum.inl (Rc.d (D.int IntKind.i64 (2 : Int)))])))
         (VC.need ((List.all [[D.int IntKind.i64 (IntKind.wrap IntKind.i64 (s.pc + (1 : Int)))]] fun r ↦ List.length r == (1 : Nat)) = true ∧ (List.all ([] ++ rowsOn s.stack) fun r ↦ List.length r == (1 : Nat)) = true ∧ (List.length ([] ++ rowsOn s.stack) + List.length [[D.int IntKind.i64 (IntKind.wrap IntKind.i64 (s.pc + (1 : Int)))]] + (100 : Nat)) * (9 : Nat) ≤ (70368744177664 : Nat))
         (VC.ret (some (RR.tup [Sum.inr [Rc.d (D.int IntKind.i64 s.r0), Rc.d (D.int IntKind.i64 s.r1), Rc.d (D.int IntKind.i64 s.r2), Rc.d (D.int IntKind.i64 s.r3), Rc.new (1 : Nat) ([] ++ rowsOn s.mem), Rc.new (1 : Nat) ([] ++ rowsOn s.stack ++ [[D.int IntKind.i64 (IntKind.wrap IntKind.i64 (s.pc + (1 : Int)))]]), Rc.d (D.int IntKind.i64 y2.target)], Sum.inl Rc.nil, Sum.inl (Rc.d (D.int IntKind.i64 (0 : Int)))])))))
        (VC.br (y2.kind == (9 : Int))
         (VC.br ((↑(List.length (rowsOn s.stack)) : Int) == (0 : Int))
          (VC.ret (some (RR.tup [Sum.inr [Rc.d (D.int IntKind.i64 s.r0), Rc.d (D.int IntKind.i64 s.r1), Rc.d (D.int IntKind.i64 s.r2), Rc.d (D.int IntKind.i64 s.r3), Rc.d (D.sl (rowsOn s.mem)), Rc.d (D.sl (rowsOn s.stack)), Rc.d (D.int IntKind.i64 s.pc)], Sum.inl Rc.nil, Sum.inl (Rc.d (D.int IntKind.i64 (2 : Int)))])))
          (VC.need ((0 : Int) ≤ IntKind.wrap IntKind.i64 ((↑(List.length (rowsOn s.stack)) : Int) - (1 : Int)) ∧ IntKind.wrap IntKind.i64 ((↑(List.length (rowsOn s.stack)) : Int) - (1 : Int)) < (↑(List.length (rowsOn s.stack)) : Int) ∧ List.length (rowAt (rowsOn s.stack) (Int.toNat (IntKind.wrap IntKind.i64 ((↑(List.length (rowsOn s.stack)) : Int) - (1 : Int))))) = (1 : Nat))
          (VC.need (okSh [Kd.int IntKind.i64] (rowAt (rowsOn s.stack) (Int.toNat (IntKind.wrap IntKind.i64 ((↑(List.length (rowsOn s.stack)) : Int) - (1 : Int))))))
          (VC.need ((0 : Int) ≤ IntKind.wrap IntKind.i64 ((↑((0 : Nat) + List.length (rowsOn s.stack)) : Int) - (1 : Int)) ∧ IntKind.wrap IntKind.i64 ((↑((0 : Nat) + List.length (rowsOn s.stack)) : Int) - (1 : Int)) ≤ (↑(List.length ([] ++ rowsOn s.stack)) : Int))
          (VC.ret (some (RR.tup [Sum.inr [Rc.d (D.int IntKind.i64 s.r0), Rc.d (D.int IntKind.i64 s.r1), Rc.d (D.int IntKind.i64 s.r2), Rc.d (D.int IntKind.i64 s.r3), Rc.new (1 : Nat) ([] ++ rowsOn s.mem), Rc.new (1 : Nat) (List.take (Int.toNat (IntKind.wrap IntKind.i64 ((↑((0 : Nat) + List.length (rowsOn s.stack)) : Int) - (1 : Int)))) ([] ++ rowsOn s.stack)), Rc.d (D.int IntKind.i64 (asInt (List.getD (rowAt (rowsOn s.stack) (Int.toNat (IntKind.wrap IntKind.i64 ((↑(List.length (rowsOn s.stack)) : Int) - (1 : Int))))) (0 : Nat) D.nilp)))], Sum.inl (Rc.new (2 : Nat) [[D.int IntKind.i64 (3 : Int), D.int IntKind.i64 (asInt (List.getD (rowAt (rowsOn s.stack) (Int.toNat (IntKind.wrap IntKind.i64 ((↑(List.length (rowsOn s.stack)) : Int) - (1 : Int))))) (0 : Nat) D.nilp))]]), Sum.inl (Rc.d (D.int IntKind.i64 (0 : Int)))])))))))
         (VC.br (y2.kind == (10 : Int))
          (VC.ret (some (RR.tup [Sum.inr [Rc.d (D.int IntKind.i64 s.r0), Rc.d (D.int IntKind.i64 s.r1), Rc.d (D.int IntKind.i64 s.r2), Rc.d (D.int IntKind.i64 s.r3), Rc.new (1 : Nat) ([] ++ rowsOn s.mem), Rc.new (1 : Nat) ([] ++ rowsOn s.stack), Rc.d (D.int IntKind.i64 (IntKind.wrap IntKind.i64 (s.pc + (1 : Int))))], Sum.inl Rc.nil, Sum.inl (Rc.d (D.int IntKind.i64 (0 : Int)))])))
          (VC.br (y2.kind == (11 : Int))
           (VC.ret (some (RR.tup [Sum.inr [Rc.d (D.int IntKind.i64 s.r0), Rc.d (D.int IntKind.i64 s.r1), Rc.d (D.int IntKind.i64 s.r2), Rc.d (D.int IntKind.i64 s.r3), Rc.d (D.sl (rowsOn s.mem)), Rc.d (D.sl (rowsOn s.stack)), Rc.d (D.int IntKind.i64 s.pc)], Sum.inl Rc.nil, Sum.inl (Rc.d (D.int IntKind.i64 (1 : Int)))])))
           (VC.ret (some (RR.tup [Sum.inr [Rc.d (D.int IntKind.i64 s.r0), Rc.d (D.int IntKind.i64 s.r1), Rc.d (D.int IntKind.i64 s.r2), Rc.d (D.int IntKind.i64 s.r3), Rc.d (D.sl (rowsOn s.mem)), Rc.d (D.sl (rowsOn s.stack)), Rc.d (D.int IntKind.i64 s.pc)], Sum.inl Rc.nil, Sum.inl (Rc.d (D.int IntKind.i64 (2 : Int)))])))))))))))))))))))))))) := by kernel_rfl
structure InsOk (i : Ins) : Prop where
  d : 0 ≤ i.d ∧ i.d < 4
  aN : 0 ≤ i.aN ∧ i.aN < 4
  bN : 0 ≤ i.bN ∧ i.bN < 4
structure PrgOk (p : Prg) : Prop where
  w : okW p.w
  mems : Mems p.mems
  len : p.ins.length ≤ 1000000
  ins : ∀ i ∈ p.ins, InsOk i
structure StaOk (p : Prg) (s : Sta) : Prop where
  regs : ∀ r, 0 ≤ r ∧ r < 4 → 0 ≤ s.reg r ∧ s.reg r < 2 ^ p.w.toNat
  vals : ∀ x ∈ s.mem, 0 ≤ x ∧ x < 2 ^ p.w.toNat
  mem : (s.mem.length : Int) = cellsS p.mems
  stack : s.stack.length ≤ 1000000
theorem at_ok {p : Prg} (hp : PrgOk p) (pc : Int) : InsOk (atS p.ins pc) := by
  unfold atS
  split
  · exact ⟨by decide, by decide, by decide⟩
  · exact hp.ins _ (rd_mem _ _ (by omega) (by omega))
theorem StaOk.small {p : Prg} {s : Sta} (hp : PrgOk p) (h : StaOk p s) : SmallS s := by
  have := (places_len p hp.mems).2
  have := h.mem
  exact ⟨by omega, h.stack⟩
def Sta.regs (s : Sta) : Regs := ⟨s.r0, s.r1, s.r2, s.r3⟩
theorem get_regs (s : Sta) {r : Int} (h : 0 ≤ r ∧ r < 4) : s.regs.get (r % 4) = s.reg r := by
  have : r = 0 ∨ r = 1 ∨ r = 2 ∨ r = 3 := by omega
  rcases this with rfl | rfl | rfl | rfl <;> rfl
theorem valR_eq {p : Prg} {s : Sta} (hp : PrgOk p) (hs : StaOk p s) (r : Bool) {n : Int} (hn : 0 ≤ n ∧ n < 4) : valR p.w s.regs r n = valS p.w s r n := by
  unfold valR valS
  split
  · rw [get_regs s hn, maskS_id hp.w (hs.regs n hn).1 (hs.regs n hn).2]
  · rfl
def stepB (p : Prg) (s : Sta) (i : Ins) (a b at_ : Int) : Sta × List Obs × Int :=
  if i.kind = 1 ∨ i.kind = 4 then ({ s.setReg i.d (valueS p.w i a b (maskS p.w (s.reg i.d))) with pc := s.pc + 1 }, [], 0)
  else if i.kind = 2 then if at_ < cellsS p.mems ∧ at_ < s.mem.length then ({ s.setReg i.d (rd s.mem at_) with pc := s.pc + 1 }, [⟨1, at_⟩], 0) else (s, [], 2)
  else if i.kind = 3 then if at_ < cellsS p.mems ∧ at_ < s.mem.length then ({ s with mem := s.mem.set at_.toNat (maskS p.w (s.reg i.d)), pc := s.pc + 1 }, [⟨2, at_⟩], 0) else (s, [], 2)
  else if i.kind = 5 ∨ i.kind = 7 then ({ s with pc := wayS p.w p.ins.length i s.pc a b }, [⟨3, wayS p.w p.ins.length i s.pc a b⟩], 0)
  else if i.kind = 6 then ({ s with pc := i.target }, [], 0)
  else if i.kind = 8 then if 4 ≤ s.stack.length then (s, [], 2) else ({ s with stack := s.stack ++ [s.pc + 1], pc := i.target }, [], 0)
  else if i.kind = 9 then if s.stack.length = 0 then (s, [], 2) else ({ s with stack := s.stack.dropLast, pc := rd s.stack (s.stack.length - 1) }, [⟨3, rd s.stack (s.stack.length - 1)⟩], 0)
  else if i.kind = 10 then ({ s with pc := s.pc + 1 }, [], 0)
  else if i.kind = 11 then (s, [], 1)
  else (s, [], 2)
theorem stepS_B (p : Prg) (s : Sta) : stepS p s = stepB p s (atS p.ins s.pc) (valS p.w s (atS p.ins s.pc).aR (atS p.ins s.pc).aN) (valS p.w s (atS p.ins s.pc).bR (atS p.ins s.pc).bN) (maskS p.w (valS p.w s (atS p.ins s.pc).aR (atS p.ins s.pc).aN + valS p.w s (atS p.ins s.pc).bR (atS p.ins s.pc).bN)) := rfl
theorem setReg_self (s : Sta) {d : Int} (h : 0 ≤ d ∧ d < 4) : s.setReg d (s.reg d) = s := by
  have : d = 0 ∨ d = 1 ∨ d = 2 ∨ d = 3 := by omega
  rcases this with rfl | rfl | rfl | rfl <;> rfl
def c_rStep : FT (Prg × Sta) := ⟨33, fun x => [ap x.1, as_ x.2], rdPS, fun x => PrgOk x.1 ∧ StaOk x.1 x.2, fun x => rstep (stepS x.1 x.2), true, fun x => by simp [ap, as_, rdPS]⟩
theorem c_rStep_good : c_rStep.fe.Good Try.prog := by
  refine FT.good c_rStep ⟨Try.f33, by kernel_rfl, by decide +kernel, by kernel_rfl⟩ (fun ⟨p, s⟩ => by first | rfl | simp [c_rStep, rrRef, rrun, rstep, rins, rnum, rby, rss, rnewI, rnewE, rstab, rplaces, ri, rb, rib, Sta.fresh]) fun ⟨p, s⟩ hp => ?_
  refine acalls_leD s_rStep_sound (fn := Try.f33) (a := a_rStep) (nargs := 2) (tbl := []) (by kernel_rfl) (by kernel_rfl) rfl (m := 400) ?_
  show VC.holds _ _ _ (a_rStep.start s_rStep 400 [ap p, as_ s])
  rw [t_rStep]
  try simp only [asRows_sl, asInt_int, asBool_bool, asStr_str, listOf_rowsOn, List.drop_zero, Prg.eta, Sta.eta, rowsOn_length, getD_drop, Nat.reduceAdd, rd_int, rd_PMem_name, rd_PMem_secret, rd_PMem_n, rd_PLabel_name, rd_PLabel_at_, rd_Ins_kind, rd_Ins_op, rd_Ins_d, rd_Ins_aR, rd_Ins_aN, rd_Ins_bR, rd_Ins_bN, rd_Ins_name, rd_Ins_target, rd_Ent_pc, rd_Ent_val, rd_Ent_addr, rd_Ent_fro, rd_Ent_next, rd_Ent_done, rd_Ent_known, rd_Ent_fault, rd_Place_reg, rd_Place_n, rd_Place_secret, rd_Obs_kind, rd_Obs_at_, rd_Dir_kind, rd_Dir_n, Prg.of_cells, Sta.of_cells]
  try simp only [c_rStep] at hp
  obtain ⟨hp0, hs⟩ := hp
  have hsm := hs.small hp0
  have hiok := at_ok hp0 s.pc
  have e : c_rStep.ans (p, s) = rstep (stepS p s) := rfl
  rw [e, stepS_B]
  refine ⟨PreOk.mk trivial rfl, all_holds fun i e4 => ?_⟩
  replace e4 : i = atS p.ins s.pc := e4
  rw [← e4] at hiok ⊢
  have hr : i.kind ≠ 12 → IntKind.wrap .i64 (s.pc + 1) = s.pc + 1 := fun h => by
    have := at_range (l := p.ins) (pc := s.pc) (by rw [← e4]; exact h)
    have := hp0.len
    exact wrap_small _ (by omega) (by omega)
  refine ⟨PreOk.mk trivial rfl, all_holds fun a ea => ?_⟩
  replace ea : a = valS p.w s i.aR i.aN := ea.trans (valR_eq hp0 hs i.aR hiok.aN)
  refine ⟨PreOk.mk trivial rfl, all_holds fun b eb => ?_⟩
  replace eb : b = valS p.w s i.bR i.bN := eb.trans (valR_eq hp0 hs i.bR hiok.bN)
  have ha := valS_range p.w s i.aR i.aN
  have hb := valS_range p.w s i.bR i.bN
  rw [← ea, ← eb] at *
  rw [wrap_small (a + b) (by omega) (by omega)]
  have hd := hiok.d
  have hd3 : bits .and .i64 i.d 3 = i.d := by rw [and3]; omega
  rw [hd3]
  have hmd := maskS_id hp0.w (hs.regs i.d hd).1 (hs.regs i.d hd).2
  clear e e4 ea eb
  obtain ⟨hm1, hm2⟩ := hsm
  have hc := hs.mem
  refine ⟨⟨all2 _ rfl, rfl, by simp; omega⟩, ⟨⟨all2 _ rfl, rfl, by simp; omega⟩, ⟨PreOk.mk trivial rfl, all_holds fun at_ eA => ?_⟩⟩⟩
  have hA : 0 ≤ at_ := by rw [eA]; exact (maskS_range _ _).1
  replace eA : maskS p.w (a + b) = at_ := eA.symm
  rw [eA]
  have hself := setReg_self s hd
  have hcl : cellsS p.mems = s.mem.length := hc.symm
  clear hc
  have m0 : maskS p.w s.r0 = s.r0 := maskS_id hp0.w (hs.regs 0 (by decide)).1 (hs.regs 0 (by decide)).2
  have m1 : maskS p.w s.r1 = s.r1 := maskS_id hp0.w (hs.regs 1 (by decide)).1 (hs.regs 1 (by decide)).2
  have m2 : maskS p.w s.r2 = s.r2 := maskS_id hp0.w (hs.regs 2 (by decide)).1 (hs.regs 2 (by decide)).2
  have m3 : maskS p.w s.r3 = s.r3 := maskS_id hp0.w (hs.regs 3 (by decide)).1 (hs.regs 3 (by decide)).2
  have hset : at_ < s.mem.length → ∀ v, List.set (rowsOn s.mem) (Int.toNat at_) (splice (rowAt (rowsOn s.mem) (Int.toNat at_)) 0 [.int .i64 v]) = rowsOn (s.mem.set (Int.toNat at_) v) := fun h v => (OnL.set (R := rowsOn s.mem) (n := s.mem.length) (l := s.mem) ⟨rfl, rfl⟩ hA h v).1
  clear eA
  have et : List.take (Int.toNat ((s.stack.length : Int) - 1)) (rowsOn s.stack) = rowsOn s.stack.dropLast := by
    rw [show Int.toNat ((s.stack.length : Int) - 1) = s.stack.length - 1 by omega, List.dropLast_eq_take]
    unfold rowsOn
    rw [List.map_take]
  have es : rowsOn s.stack ++ [[D.int .i64 (s.pc + 1)]] = rowsOn (s.stack ++ [s.pc + 1]) := rowsOn_snoc _ _
  have hl1 : s.stack.length ≤ 1000000 := hs.stack
  have hw1 : IntKind.wrap .i64 ((s.stack.length : Int) - 1) = (s.stack.length : Int) - 1 := wrap_small _ (by omega) (by omega)
  simp only [List.nil_append, Nat.zero_add, hw1, et]
  repeat' first
    | refine br_not ?_
    | refine br_dec (fun _ => ?_) (fun _ => ?_)
    | refine br_beq (fun _ => ?_) (fun _ => ?_)
    | refine br_bne (fun _ => ?_) (fun _ => ?_)
    | refine br_holds (fun _ => ?_) (fun _ => ?_)
    | refine ⟨PreOk.mk ?_ rfl, ?_⟩
    | refine ⟨idx_ok _ _ _ rfl (by omega) (by omega), ?_⟩
    | refine ⟨okSh_ok _ _ _ (fun _ => rfl) (by omega) (by omega), ?_⟩
    | refine ⟨okSh_okD _ _ _ _ (fun _ => rfl) (by omega) (by omega), ?_⟩
    | refine ⟨aload_ok _ _ rfl (fun _ => rfl) (by omega) (by omega), ?_⟩
    | refine ⟨aload_okD _ _ _ rfl (fun _ => rfl) (by omega) (by omega), ?_⟩
    | refine ⟨astore_ok (by assumption) rfl (by omega) (by omega) (by decide), ?_⟩
    | refine ⟨app_ok (by assumption) rfl rfl (by simp only [List.length_cons, List.length_nil]; omega), ?_⟩
    | refine need_holds ?_ fun _ => ?_
    | refine all_holds fun y hy => ?_
    | refine ret_leD ?_
  all_goals subst_vars
  all_goals try simp only [v_rDo, v_rJump] at *
  all_goals try exact trivial
  all_goals try (exfalso; omega)
  all_goals try exact idx_ok _ _ _ rfl (by omega) (by omega)
  all_goals try exact ⟨by omega, by omega⟩
  all_goals try exact ⟨by rw [rowsOn_length]; omega, (idx_ok s.mem at_ 1 rfl hA (by omega)).2.2, by decide⟩
  all_goals try exact ⟨all2 _ rfl, by omega, by omega, by omega⟩
  all_goals try exact ⟨by omega, by rw [rowsOn_length]; omega⟩
  all_goals try exact ⟨all2 _ rfl, by omega, by omega, by rw [rowsOn_length]; omega⟩
  all_goals try exact ⟨rfl, all2 _ rfl, by simp; omega⟩
  all_goals try simp only [← Int.not_lt, Classical.not_not] at *
  all_goals try (refine RR.le_of_eq ?_; simp [RR.data, Rc.data, rstep, stepB, valueS, wayS, v_rDo, v_rJump, Sta.setReg, Sta.reg, Sta.cells, rowsOn_nil, obs_row, *]; done)
  all_goals try (refine RR.le_of_eq ?_; simp [RR.data, Rc.data, rstep, stepB, valueS, wayS, v_rDo, v_rJump, Sta.cells, rowsOn_nil, obs_row, *]; done)
  · have h4 : 4 ≤ s.stack.length := by omega
    refine RR.le_of_eq ?_
    simp [RR.data, Rc.data, rstep, stepB, Sta.cells, rowsOn_nil, obs_row, *]
  · have h4 : ¬ 4 ≤ s.stack.length := by omega
    have hrg : i.kind ≠ 12 := by rw [show i.kind = 8 from ‹_›]; decide
    rw [hr hrg, es]
    refine RR.le_of_eq ?_
    simp [RR.data, Rc.data, rstep, stepB, Sta.cells, rowsOn_nil, obs_row, *]
  · have h0 : s.stack = [] := List.eq_nil_of_length_eq_zero (by omega)
    refine RR.le_of_eq ?_
    simp [RR.data, Rc.data, rstep, stepB, Sta.cells, rowsOn_nil, obs_row, h0, *]
  · have h0 : ¬ s.stack = [] := fun h => by
      have hz : s.stack.length = 0 := by rw [h]; rfl
      omega
    refine RR.le_of_eq ?_
    simp [RR.data, Rc.data, rstep, stepB, Sta.cells, rowsOn_nil, obs_row, h0, *]
noncomputable def v_rStep : Prg × Sta → Sta × List Obs × Int := fun x => stepS x.1 x.2
noncomputable def sh_rStep : Sta × List Obs × Int → RR := fun x => rstep x
theorem e_rStep (x : Prg × Sta) : sh_rStep (v_rStep x) = c_rStep.ans x := rfl
theorem setReg_reg {p : Prg} {s : Sta} (h : ∀ r, 0 ≤ r ∧ r < 4 → 0 ≤ s.reg r ∧ s.reg r < 2 ^ p.w.toNat) {d v : Int} (hd : 0 ≤ d ∧ d < 4) (hv : 0 ≤ v ∧ v < 2 ^ p.w.toNat) : ∀ r, 0 ≤ r ∧ r < 4 → 0 ≤ (s.setReg d v).reg r ∧ (s.setReg d v).reg r < 2 ^ p.w.toNat := by
  intro r hr
  have h1 : d = 0 ∨ d = 1 ∨ d = 2 ∨ d = 3 := by omega
  have h2 : r = 0 ∨ r = 1 ∨ r = 2 ∨ r = 3 := by omega
  have g0 := h 0 (by decide)
  have g1 := h 1 (by decide)
  have g2 := h 2 (by decide)
  have g3 := h 3 (by decide)
  rcases h1 with rfl | rfl | rfl | rfl <;> rcases h2 with rfl | rfl | rfl | rfl <;> assumption
theorem doS_range {w : Int} (hw : okW w) (op a b : Int) : 0 ≤ (doS w op a b).1 ∧ (doS w op a b).1 < 2 ^ w.toNat := by
  have h0 : (0 : Int) < 2 ^ w.toNat := (pow_small hw).1
  unfold doS
  rw [if_pos hw]
  split
  · exact maskS_ok hw _
  · exact ⟨Int.le_refl _, h0⟩
theorem valS_ok {w : Int} (hw : okW w) (s : Sta) (r : Bool) (n : Int) : 0 ≤ valS w s r n ∧ valS w s r n < 2 ^ w.toNat := by
  unfold valS
  split
  · exact maskS_ok hw _
  · exact maskS_ok hw _
theorem step_ok {p : Prg} {s : Sta} (hp : PrgOk p) (hs : StaOk p s) : StaOk p (stepS p s).1 := by
  have hi := at_ok hp s.pc
  have ha := valS_ok hp.w s (atS p.ins s.pc).aR (atS p.ins s.pc).aN
  have hb := valS_ok hp.w s (atS p.ins s.pc).bR (atS p.ins s.pc).bN
  rw [stepS_B]
  have hA := (maskS_range p.w (valS p.w s (atS p.ins s.pc).aR (atS p.ins s.pc).aN + valS p.w s (atS p.ins s.pc).bR (atS p.ins s.pc).bN)).1
  generalize maskS p.w (valS p.w s (atS p.ins s.pc).aR (atS p.ins s.pc).aN + valS p.w s (atS p.ins s.pc).bR (atS p.ins s.pc).bN) = A at hA ⊢
  generalize valS p.w s (atS p.ins s.pc).aR (atS p.ins s.pc).aN = a at ha
  generalize valS p.w s (atS p.ins s.pc).bR (atS p.ins s.pc).bN = b at hb
  generalize atS p.ins s.pc = i at hi
  obtain ⟨h1, h2, h3, h4⟩ := hs
  have hm := fun v => setReg_mem' s i.d v
  have hv : 0 ≤ valueS p.w i a b (maskS p.w (s.reg i.d)) ∧ valueS p.w i a b (maskS p.w (s.reg i.d)) < 2 ^ p.w.toNat := by
    unfold valueS
    split
    · split
      · exact maskS_ok hp.w _
      · exact hb
    · exact doS_range hp.w _ _ _
  unfold stepB
  repeat' split
  all_goals try exact ⟨h1, h2, h3, h4⟩
  · exact ⟨setReg_reg h1 hi.d hv, by rw [(hm _).1]; exact h2, by rw [(hm _).1]; exact h3, by rw [(hm _).2]; exact h4⟩
  · have h0 : 0 ≤ rd s.mem A ∧ rd s.mem A < 2 ^ p.w.toNat := h2 _ (rd_mem _ _ hA (by omega))
    exact ⟨setReg_reg h1 hi.d h0, by rw [(hm _).1]; exact h2, by rw [(hm _).1]; exact h3, by rw [(hm _).2]; exact h4⟩
  · refine ⟨h1, ?_, by simpa using h3, h4⟩
    intro x hx
    rcases List.mem_or_eq_of_mem_set hx with h | h
    · exact h2 x h
    · rw [h]; exact maskS_ok hp.w _
  · exact ⟨h1, h2, h3, by simp only [List.length_append, List.length_singleton]; omega⟩
  · exact ⟨h1, h2, h3, by simp only [List.length_dropLast]; omega⟩
end Go.Proofs.Ytmhfhobaicklmaa.Ax
end

section
/- One by one, by the document: runs; observations compared. -/
namespace Go.Proofs.Ytmhfhobaicklmaa.Ax
open Go.RowKit
set_option linter.unusedVariables false
set_option linter.unusedSimpArgs false
def F_rRun (p : Prg) (s : Sta) (n d : Int) (R : List (List D)) (m : Nat) : St := ⟨mkS 42 [(2, vi n), (3, vp 192), (4, vp 256), (6, vp 384), (10, vo 900003 m), (11, vi d)], [(192, bx p.cells), (256, bx s.cells), (384, bc [.d (.int .i64 0), .d (.int .i64 0), .d (.int .i64 0), .d (.int .i64 0), .nil, .nil, .d (.int .i64 0)]), (900003, ba 2 R)]⟩
theorem Obs.eq_iff {a b : Obs} : a = b ↔ a.kind = b.kind ∧ a.at_ = b.at_ := by
  obtain ⟨_, _⟩ := a
  obtain ⟨_, _⟩ := b
  simp
def rdOO : List A → List Obs × List Obs
  | [.c (.sl r), .c (.sl s)] => (listOf Obs r, listOf Obs s)
  | _ => default
def ao (l : List Obs) : A := .c (.sl (rowsOn l))
def c_rSameO : FT (List Obs × List Obs) := ⟨75, fun x => [ao x.1, ao x.2], rdOO, fun x => x.1.length ≤ 1000000000, fun x => rb (decide (x.1 = x.2)), false, fun x => by simp [ao, rdOO]⟩
noncomputable def a_rSameO : FnA := (fnA Try.prog Try.f75 2 [(4, [0, 1, 5])]).getD ⟨0, .skip, [], []⟩
def s_rSameO : Sp := spT []
theorem s_rSameO_sound : s_rSameO.sound Try.prog := spT_sound fun e he => by cases he
def F_rSameO (a b : List Obs) (k : Int) : St := ⟨mkS 26 [(0, vr (rowsOn a)), (1, vr (rowsOn b)), (5, vi k)], []⟩
set_option maxRecDepth 100000 in
theorem t_rSameO (a b : List Obs) : a_rSameO.start s_rSameO 400 [ao a, ao b] =
(VC.br ((↑(List.length (rowsOn a)) : Int) != (↑(List.length (rowsOn b)) : Int))
 (VC.ret (some (RR.c (Rc.d (D.bool false)))))
 (FnA.at_ a_rSameO 0 (F_rSameO a b (0 : Int)))) := by kernel_rfl
set_option maxRecDepth 100000 in
theorem t_rSameO0 (a b : List Obs) (k : Int) : a_rSameO.round s_rSameO 400 0 (F_rSameO a b k) =
(VC.br (decide (k < (↑(List.length (rowsOn a)) : Int)))
 (VC.need ((0 : Int) ≤ k ∧ k < (↑(List.length (rowsOn a)) : Int) ∧ List.length (rowAt (rowsOn a) (Int.toNat k)) = (2 : Nat))
 (VC.need (okSh [Kd.int IntKind.i64, Kd.int IntKind.i64] (rowAt (rowsOn a) (Int.toNat k)))
 (VC.need ((0 : Int) ≤ k ∧ k < (↑(List.length (rowsOn b)) : Int) ∧ List.length (rowAt (rowsOn b) (Int.toNat k)) = (2 : Nat))
 (VC.need (okSh [Kd.int IntKind.i64, Kd.int IntKind.i64] (rowAt (rowsOn b) (Int.toNat k)))
 (VC.br (if true = true then !(asInt (List.getD (rowAt (rowsOn a) (Int.toNat k)) (0 : Nat) D.nilp) == asInt (List.getD (rowAt (rowsOn b) (Int.toNat k)) (0 : Nat) D.nilp) && (asInt (List.getD (rowAt (rowsOn a) (Int.toNat k)) (1 : Nat) D.nilp) == asInt (List.getD (rowAt (rowsOn b) (Int.toNat k)) (1 : Nat) D.nilp) && true)) else asInt (List.getD (rowAt (rowsOn a) (Int.toNat k)) (0 : Nat) D.nilp) == asInt (List.getD (rowAt (rowsOn b) (Int.toNat k)) (0 : Nat) D.nilp) && (asInt (List.getD (rowAt (rowsOn a) (Int.toNat k)) (1 : Nat) D.nilp) == asInt (List.getD (rowAt (rowsOn b) (Int.toNat k)) (1 : Nat) D.nilp) && true))
  (VC.ret (some (RR.c (Rc.d (D.bool false)))))
  (FnA.at_ a_rSameO 0 (F_rSameO a b (IntKind.wrap IntKind.i64 (k + (1 : Int))))))))))
 (VC.ret (some (RR.c (Rc.d (D.bool true)))))) := by kernel_rfl
theorem l_rSameO0 (a b : List Obs) (res : Bool) (hl : a.length = b.length) (hb : a.length ≤ 1000000000) : ∀ i_ : Int, (fun (i : Int) => 0 ≤ i ∧ i ≤ a.length ∧ decide (a.drop i.toNat = b.drop i.toNat) = res) i_ → (a_rSameO.at_ 0 ((fun (i : Int) => F_rSameO a b i) i_)).holds s_rSameO.cx a_rSameO.rs (fun r => r.le (rb res)) := by
  refine loop_rule (a := a_rSameO) (j := 0) (m := 400) s_rSameO_sound (fun (i : Int) => F_rSameO a b i) (fun (i : Int) => 0 ≤ i ∧ i ≤ a.length ∧ decide (a.drop i.toNat = b.drop i.toNat) = res) (fun (i : Int) => ((a.length : Int) - i).toNat) ?_
  rintro k h_inv ih
  try dsimp only at h_inv
  show VC.holds _ _ _ (a_rSameO.round s_rSameO 400 0 (F_rSameO a b k))
  rw [t_rSameO0]
  try simp only [asRows_sl, asInt_int, asBool_bool, asStr_str, listOf_rowsOn, List.drop_zero, Prg.eta, Sta.eta, rowsOn_length, getD_drop, Nat.reduceAdd, rd_int, rd_PMem_name, rd_PMem_secret, rd_PMem_n, rd_PLabel_name, rd_PLabel_at_, rd_Ins_kind, rd_Ins_op, rd_Ins_d, rd_Ins_aR, rd_Ins_aN, rd_Ins_bR, rd_Ins_bN, rd_Ins_name, rd_Ins_target, rd_Ent_pc, rd_Ent_val, rd_Ent_addr, rd_Ent_fro, rd_Ent_next, rd_Ent_done, rd_Ent_known, rd_Ent_fault, rd_Place_reg, rd_Place_n, rd_Place_secret, rd_Obs_kind, rd_Obs_at_, rd_Dir_kind, rd_Dir_n, Prg.of_cells, Sta.of_cells]
  obtain ⟨h0, h1, h2⟩ := h_inv
  have w1 : IntKind.wrap .i64 (k + 1) = k + 1 := wrap_small _ (by omega) (by omega)
  rw [w1]
  refine br_dec (fun hk => ?_) (fun hk => ?_)
  · refine ⟨idx_ok _ _ _ rfl (by omega) (by omega), ⟨okSh_ok _ _ _ (fun _ => rfl) (by omega) (by omega), ⟨idx_ok _ _ _ rfl (by omega) (by omega), ⟨okSh_ok _ _ _ (fun _ => rfl) (by omega) (by omega), ?_⟩⟩⟩⟩
    refine br_holds (fun h => ?_) (fun h => ?_)
    · refine ret_le (rb_le ?_)
      have hne : ¬ rd a k = rd b k := fun he => by rw [he] at h; simp at h
      rw [← h2]
      exact (decide_eq_false fun h => absurd ((eq_dropG hl h0 hk).1 h).1 hne).symm
    · have he : rd a k = rd b k := Obs.eq_iff.2 (by simpa using h)
      refine ih _ ⟨by omega, by omega, ?_⟩ (by omega)
      rw [← h2]
      exact decide_eq_decide.2 ⟨fun h => (eq_dropG hl h0 hk).2 ⟨he, h⟩, fun h => ((eq_dropG hl h0 hk).1 h).2⟩
  · refine ret_le (rb_le ?_)
    have hk : k.toNat = a.length := by omega
    rw [← h2, hk, List.drop_length, hl, List.drop_length]
    rfl
theorem c_rSameO_good : c_rSameO.fe.Good Try.prog := by
  refine FT.good c_rSameO ⟨Try.f75, by kernel_rfl, by decide +kernel, by kernel_rfl⟩ (fun ⟨a, b⟩ => by first | rfl | simp [c_rSameO, rrRef, rrun, rstep, rins, rnum, rby, rss, rnewI, rnewE, rstab, rplaces, ri, rb, rib, Sta.fresh]) fun ⟨a, b⟩ hp => ?_
  refine acalls_le s_rSameO_sound (fn := Try.f75) (a := a_rSameO) (nargs := 2) (tbl := [(4, [0, 1, 5])]) (by kernel_rfl) (by kernel_rfl) rfl (m := 400) ?_
  show VC.holds _ _ _ (a_rSameO.start s_rSameO 400 [ao a, ao b])
  rw [t_rSameO]
  try simp only [asRows_sl, asInt_int, asBool_bool, asStr_str, listOf_rowsOn, List.drop_zero, Prg.eta, Sta.eta, rowsOn_length, getD_drop, Nat.reduceAdd, rd_int, rd_PMem_name, rd_PMem_secret, rd_PMem_n, rd_PLabel_name, rd_PLabel_at_, rd_Ins_kind, rd_Ins_op, rd_Ins_d, rd_Ins_aR, rd_Ins_aN, rd_Ins_bR, rd_Ins_bN, rd_Ins_name, rd_Ins_target, rd_Ent_pc, rd_Ent_val, rd_Ent_addr, rd_Ent_fro, rd_Ent_next, rd_Ent_done, rd_Ent_known, rd_Ent_fault, rd_Place_reg, rd_Place_n, rd_Place_secret, rd_Obs_kind, rd_Obs_at_, rd_Dir_kind, rd_Dir_n, Prg.of_cells, Sta.of_cells]
  try simp only [c_rSameO] at hp
  repeat' first
    | refine br_not ?_
    | refine br_dec (fun _ => ?_) (fun _ => ?_)
    | refine br_beq (fun _ => ?_) (fun _ => ?_)
    | refine br_bne (fun _ => ?_) (fun _ => ?_)
    | refine br_holds (fun _ => ?_) (fun _ => ?_)
    | refine ⟨PreOk.mk ?_ rfl, ?_⟩
    | refine ⟨idx_ok _ _ _ rfl (by omega) (by omega), ?_⟩
    | refine ⟨okSh_ok _ _ _ (fun _ => rfl) (by omega) (by omega), ?_⟩
    | refine ⟨okSh_okD _ _ _ _ (fun _ => rfl) (by omega) (by omega), ?_⟩
    | refine ⟨aload_ok _ _ rfl (fun _ => rfl) (by omega) (by omega), ?_⟩
    | refine ⟨aload_okD _ _ _ rfl (fun _ => rfl) (by omega) (by omega), ?_⟩
    | refine ⟨astore_ok (by assumption) rfl (by omega) (by omega) (by decide), ?_⟩
    | refine ⟨app_ok (by assumption) rfl rfl (by simp only [List.length_cons, List.length_nil]; omega), ?_⟩
    | refine need_holds ?_ fun _ => ?_
    | refine all_holds fun y hy => ?_
    | refine ret_le ?_
  · have e : c_rSameO.ans (a, b) = rb (decide (a = b)) := rfl
    rw [e]
    exact l_rSameO0 a b _ (by omega) hp 0 ⟨by omega, by omega, by simp⟩
  · exact rb_le (decide_eq_false fun h => by have h : a = b := h; subst h; omega).symm
def F_eqO (a b : List Obs) (k : Int) : St := ⟨mkS 26 [(0, vr (rowsOn a)), (1, vr (rowsOn b)), (12, vi (rowsOn a).length), (13, vi k)], []⟩
end Go.Proofs.Ytmhfhobaicklmaa.Ax
end

section
/- Places and states that look alike, plainly. -/
namespace Go.Proofs.Ytmhfhobaicklmaa.Ax
open Go.RowKit
set_option linter.unusedVariables false
set_option linter.unusedSimpArgs false
theorem rd_left {α : Type} [Row α] (l m : List α) (i : Int) (h0 : 0 ≤ i) (h : i < l.length) : rd (l ++ m) i = rd l i := by
  unfold rd
  rw [List.getD_eq_getElem?_getD, List.getD_eq_getElem?_getD, List.getElem?_append_left (by omega)]
theorem rd_right {α : Type} [Row α] (l m : List α) (i : Int) (h : (l.length : Int) ≤ i) : rd (l ++ m) i = rd m (i - l.length) := by
  unfold rd
  rw [List.getD_eq_getElem?_getD, List.getD_eq_getElem?_getD, List.getElem?_append_right (by omega)]
  congr 2
  omega
theorem rd_memPlace {n at_ i : Int} (s : Bool) (h0 : 0 ≤ i) (h : i < n) : rd (memPlace n at_ s) i = ⟨false, at_ + i, s⟩ := by
  unfold rd memPlace
  rw [List.getD_eq_getElem?_getD, List.getElem?_map, List.getElem?_range (by omega)]
  simp only [Option.map_some, Option.getD_some, Place.mk.injEq, and_true, true_and]
  omega
theorem memPlace_length (n at_ : Int) (s : Bool) (h : 0 ≤ n) : ((memPlace n at_ s).length : Int) = n := by
  unfold memPlace
  simp only [List.length_map, List.length_range]
  omega
/-- Whether a cell is secret. -/
def secM : List PMem → Int → Bool
  | [], _ => false
  | m :: ms, j => if j < m.n then m.secret else secM ms (j - m.n)
theorem mem_memPlace {n at_ : Int} {s : Bool} {x : Place} (h : 0 ≤ n) : x ∈ memPlace n at_ s ↔ x.reg = false ∧ at_ ≤ x.n ∧ x.n < at_ + n ∧ x.secret = s := by
  unfold memPlace
  simp only [List.mem_map, List.mem_range]
  constructor
  · rintro ⟨k, hk, rfl⟩
    exact ⟨rfl, by dsimp only; omega, by dsimp only; omega, rfl⟩
  · rintro ⟨h1, h2, h3, h4⟩
    refine ⟨(x.n - at_).toNat, by omega, ?_⟩
    obtain ⟨r, n', s'⟩ := x
    simp only at h1 h2 h3 h4
    simp only [Place.mk.injEq]
    exact ⟨h1.symm, by omega, h4.symm⟩
theorem mem_memPlaces : ∀ (ms : List PMem) (at_ : Int), (∀ m ∈ ms, 0 ≤ m.n ∧ m.n ≤ 16) → ∀ x : Place, x ∈ memPlaces ms at_ ↔ x.reg = false ∧ at_ ≤ x.n ∧ x.n < at_ + cellsS ms ∧ x.secret = secM ms (x.n - at_)
  | [], at_, _, x => by
    simp only [memPlaces, cellsS, List.not_mem_nil, false_iff]
    intro h; omega
  | m :: ms, at_, h, x => by
    have h0 := h m (by simp)
    have hc := cellsS_nonneg (ms := ms) fun y hy => h y (by simp [hy])
    rw [memPlaces, List.mem_append, mem_memPlace h0.1, mem_memPlaces ms (at_ + m.n) (fun y hy => h y (by simp [hy])) x]
    simp only [cellsS, secM]
    have e : x.n - (at_ + m.n) = x.n - at_ - m.n := by omega
    rw [e]
    by_cases hx : x.n - at_ < m.n
    · rw [if_pos hx]
      constructor
      · rintro (⟨h1, h2, h3, h4⟩ | ⟨h1, h2, h3, h4⟩)
        · exact ⟨h1, h2, by omega, h4⟩
        · omega
      · rintro ⟨h1, h2, h3, h4⟩
        exact .inl ⟨h1, h2, by omega, h4⟩
    · rw [if_neg hx]
      constructor
      · rintro (⟨h1, h2, h3, h4⟩ | ⟨h1, h2, h3, h4⟩)
        · omega
        · exact ⟨h1, by omega, by omega, h4⟩
      · rintro ⟨h1, h2, h3, h4⟩
        exact .inr ⟨h1, by omega, by omega, h4⟩
theorem mem_regPlace {n r : Int} {x : Place} : x ∈ regPlace n r ↔ n ≠ 0 ∧ x.reg = true ∧ x.n = r ∧ x.secret = decide (n = 2) := by
  obtain ⟨a, b, c⟩ := x
  unfold regPlace
  by_cases h : n = 0
  · simp [h]
  · simp [h]
theorem Prg.reg_cases (p : Prg) {r : Int} (h : 0 ≤ r ∧ r < 4) : (r = 0 ∧ p.reg r = p.r0) ∨ (r = 1 ∧ p.reg r = p.r1) ∨ (r = 2 ∧ p.reg r = p.r2) ∨ (r = 3 ∧ p.reg r = p.r3) := by
  have : r = 0 ∨ r = 1 ∨ r = 2 ∨ r = 3 := by omega
  rcases this with rfl | rfl | rfl | rfl <;> simp [Prg.reg]
theorem mem_regPlaces (p : Prg) (x : Place) : x ∈ regPlaces p ↔ x.reg = true ∧ 0 ≤ x.n ∧ x.n < 4 ∧ p.reg x.n ≠ 0 ∧ x.secret = decide (p.reg x.n = 2) := by
  unfold regPlaces
  simp only [List.mem_append, mem_regPlace]
  constructor
  · rintro (((⟨h1, h2, h3, h4⟩ | ⟨h1, h2, h3, h4⟩) | ⟨h1, h2, h3, h4⟩) | ⟨h1, h2, h3, h4⟩)
    all_goals (rw [h3]; refine ⟨h2, by omega, by omega, ?_⟩; simpa [Prg.reg] using ⟨h1, h4⟩)
  · rintro ⟨h1, h2, h3, h4, h5⟩
    rcases p.reg_cases ⟨h2, h3⟩ with ⟨e, h⟩ | ⟨e, h⟩ | ⟨e, h⟩ | ⟨e, h⟩ <;> rw [h] at h4 h5
    · exact .inl (.inl (.inl ⟨h4, h1, e, h5⟩))
    · exact .inl (.inl (.inr ⟨h4, h1, e, h5⟩))
    · exact .inl (.inr ⟨h4, h1, e, h5⟩)
    · exact .inr ⟨h4, h1, e, h5⟩
theorem mem_places (p : Prg) (hm : Mems p.mems) (x : Place) : x ∈ placesS p ↔ (x.reg = true ∧ 0 ≤ x.n ∧ x.n < 4 ∧ p.reg x.n ≠ 0 ∧ x.secret = decide (p.reg x.n = 2)) ∨ (x.reg = false ∧ 0 ≤ x.n ∧ x.n < cellsS p.mems ∧ x.secret = secM p.mems x.n) := by
  unfold placesS
  rw [List.mem_append, mem_regPlaces, mem_memPlaces p.mems 0 hm.n]
  simp
/-- No place comes twice. -/
def PApart (x y : Place) : Prop := ¬ (x.reg = y.reg ∧ x.n = y.n)
theorem memPlace_apart (n at_ : Int) (s : Bool) : (memPlace n at_ s).Pairwise PApart := by
  unfold memPlace
  rw [List.pairwise_map]
  refine List.Pairwise.imp ?_ List.pairwise_lt_range
  rintro a b h ⟨_, h2⟩
  simp only at h2
  omega
theorem memPlaces_apart : ∀ (ms : List PMem) (at_ : Int), (∀ m ∈ ms, 0 ≤ m.n ∧ m.n ≤ 16) → (memPlaces ms at_).Pairwise PApart
  | [], _, _ => List.Pairwise.nil
  | m :: ms, at_, h => by
    rw [memPlaces, List.pairwise_append]
    refine ⟨memPlace_apart .., memPlaces_apart ms _ fun y hy => h y (by simp [hy]), ?_⟩
    intro x hx y hy ⟨_, h2⟩
    rw [mem_memPlace (h m (by simp)).1] at hx
    rw [mem_memPlaces ms _ fun y hy => h y (by simp [hy])] at hy
    omega
theorem regPlaces_apart (p : Prg) : (regPlaces p).Pairwise PApart := by
  have h1 : ∀ n r, (regPlace n r).Pairwise PApart := by
    intro n r; unfold regPlace; split <;> simp
  have h2 : ∀ n r m q, r ≠ q → ∀ x ∈ regPlace n r, ∀ y ∈ regPlace m q, PApart x y := by
    intro n r m q hne x hx y hy ⟨_, h⟩
    rw [mem_regPlace] at hx hy
    exact hne (by rw [← hx.2.2.1, ← hy.2.2.1, h])
  unfold regPlaces
  simp only [List.pairwise_append, List.mem_append]
  refine ⟨⟨⟨h1 _ _, h1 _ _, h2 _ _ _ _ (by decide)⟩, h1 _ _, ?_⟩, h1 _ _, ?_⟩
  · rintro x (hx | hx) y hy
    · exact h2 _ _ _ _ (by decide) x hx y hy
    · exact h2 _ _ _ _ (by decide) x hx y hy
  · rintro x ((hx | hx) | hx) y hy
    · exact h2 _ _ _ _ (by decide) x hx y hy
    · exact h2 _ _ _ _ (by decide) x hx y hy
    · exact h2 _ _ _ _ (by decide) x hx y hy
theorem places_apart (p : Prg) (hm : Mems p.mems) : (placesS p).Pairwise PApart := by
  unfold placesS
  rw [List.pairwise_append]
  refine ⟨regPlaces_apart p, memPlaces_apart _ _ hm.n, ?_⟩
  intro x hx y hy ⟨h, _⟩
  rw [mem_regPlaces] at hx
  rw [mem_memPlaces p.mems 0 hm.n] at hy
  rw [hx.1, hy.1] at h; cases h

/-! What a place holds. -/
def holdP (s : Sta) (x : Place) : Int := if x.reg then s.reg x.n else rd s.mem x.n
theorem reg_setReg (s : Sta) {r q : Int} (n : Int) (hr : 0 ≤ r ∧ r < 4) (hq : 0 ≤ q ∧ q < 4) : (s.setReg r n).reg q = if q = r then n else s.reg q := by
  have h1 : r = 0 ∨ r = 1 ∨ r = 2 ∨ r = 3 := by omega
  have h2 : q = 0 ∨ q = 1 ∨ q = 2 ∨ q = 3 := by omega
  rcases h1 with rfl | rfl | rfl | rfl <;> rcases h2 with rfl | rfl | rfl | rfl <;> rfl
theorem setReg_mem (s : Sta) (r n : Int) : (s.setReg r n).mem = s.mem ∧ (s.setReg r n).stack = s.stack ∧ (s.setReg r n).pc = s.pc := by
  unfold Sta.setReg
  repeat' split
  all_goals exact ⟨rfl, rfl, rfl⟩
theorem rd_set {l : List Int} {i j : Int} (v : Int) (hi : 0 ≤ i ∧ i < l.length) (hj : 0 ≤ j) : rd (l.set i.toNat v) j = if j = i then v else rd l j := by
  unfold rd
  rw [List.getD_eq_getElem?_getD, List.getD_eq_getElem?_getD, List.getElem?_set]
  by_cases h : j = i
  · subst h; rw [if_pos rfl, if_pos (by omega), if_pos rfl]; rfl
  · rw [if_neg (by omega), if_neg h]
theorem Sta.ext_iff' {a b : Sta} {c : Int} (ha : a.mem.length = c) (hb : b.mem.length = c) : a = b ↔ a.stack = b.stack ∧ a.pc = b.pc ∧ (∀ r, 0 ≤ r ∧ r < 4 → a.reg r = b.reg r) ∧ ∀ j, 0 ≤ j ∧ j < c → rd a.mem j = rd b.mem j := by
  constructor
  · rintro rfl; exact ⟨rfl, rfl, fun _ _ => rfl, fun _ _ => rfl⟩
  · rintro ⟨h1, h2, h3, h4⟩
    rw [Sta.eq_iff]
    refine ⟨h3 0 (by omega), h3 1 (by omega), h3 2 (by omega), h3 3 (by omega), ?_, h1, h2⟩
    apply List.ext_getElem (by omega)
    intro i g1 g2
    have := h4 i (by omega)
    rwa [rd_lt _ _ g1, rd_lt _ _ g2] at this
/-- The secrets of one state put into another one. -/
theorem seen_fold (t : Sta) (c : Int) : ∀ (q : List Place) (s : Sta), PlacesOk q c → s.mem.length = c →
    (q.foldl (seenS t) s).mem.length = c ∧ (q.foldl (seenS t) s).stack = s.stack ∧ (q.foldl (seenS t) s).pc = s.pc ∧
    (∀ r, 0 ≤ r ∧ r < 4 → (q.foldl (seenS t) s).reg r = if ⟨true, r, true⟩ ∈ q then t.reg r else s.reg r) ∧
    (∀ j, 0 ≤ j ∧ j < c → rd (q.foldl (seenS t) s).mem j = if ⟨false, j, true⟩ ∈ q then rd t.mem j else rd s.mem j)
  | [], s, _, hc => ⟨hc, rfl, rfl, fun _ _ => rfl, fun _ _ => rfl⟩
  | x :: q, s, hq, hc => by
    have hx := hq x (by simp)
    have hq' : PlacesOk q c := fun y hy => hq y (by simp [hy])
    obtain ⟨xr, xn, xs⟩ := x
    cases xs with
    | false =>
      have e : seenS t s ⟨xr, xn, false⟩ = s := rfl
      rw [List.foldl_cons, e]
      obtain ⟨h1, h2, h3, h4, h5⟩ := seen_fold t c q s hq' hc
      refine ⟨h1, h2, h3, fun r hr => ?_, fun j hj => ?_⟩
      · rw [h4 r hr]; simp
      · rw [h5 j hj]; simp
    | true =>
      cases xr with
      | true =>
        have e : seenS t s ⟨true, xn, true⟩ = s.setReg xn (t.reg xn) := rfl
        have hr0 := hx.1 rfl
        rw [List.foldl_cons, e]
        obtain ⟨m1, m2, m3⟩ := setReg_mem s xn (t.reg xn)
        obtain ⟨h1, h2, h3, h4, h5⟩ := seen_fold t c q (s.setReg xn (t.reg xn)) hq' (by rw [m1]; exact hc)
        refine ⟨h1, h2.trans m2, h3.trans m3, fun r hr => ?_, fun j hj => ?_⟩
        · rw [h4 r hr, reg_setReg s _ hr0 hr]
          by_cases e1 : r = xn
          · subst e1; simp
          · simp [e1]
        · rw [h5 j hj, m1]; simp
      | false =>
        have e : seenS t s ⟨false, xn, true⟩ = { s with mem := s.mem.set xn.toNat (rd t.mem xn) } := rfl
        have hr0 := hx.2 rfl
        rw [List.foldl_cons, e]
        obtain ⟨h1, h2, h3, h4, h5⟩ := seen_fold t c q { s with mem := s.mem.set xn.toNat (rd t.mem xn) } hq' (by simpa using hc)
        refine ⟨h1, h2, h3, fun r hr => ?_, fun j hj => ?_⟩
        · rw [h4 r hr]; simp [Sta.reg]
        · rw [h5 j hj]
          simp only
          rw [rd_set _ ⟨hr0.1, by omega⟩ hj.1]
          by_cases e1 : j = xn
          · subst e1; simp
          · simp [e1]
/-- Two states look alike. -/
theorem lowS_iff {p : Prg} {s t : Sta} (hm : Mems p.mems) (hs : s.mem.length = cellsS p.mems) (ht : t.mem.length = cellsS p.mems) : lowS p s t = true ↔ s.stack = t.stack ∧ s.pc = t.pc ∧ (∀ r, 0 ≤ r ∧ r < 4 → p.reg r ≠ 2 → s.reg r = t.reg r) ∧ ∀ j, 0 ≤ j ∧ j < cellsS p.mems → secM p.mems j = false → rd s.mem j = rd t.mem j := by
  unfold lowS
  rw [if_pos ⟨hs, ht⟩, decide_eq_true_iff]
  obtain ⟨h1, h2, h3, h4, h5⟩ := seen_fold t (cellsS p.mems) (placesS p) s (places_ok p hm) hs
  rw [Sta.ext_iff' h1 ht, h2, h3]
  have k1 : ∀ r, 0 ≤ r ∧ r < 4 → ((⟨true, r, true⟩ : Place) ∈ placesS p ↔ p.reg r = 2) := by
    intro r hr
    rw [mem_places p hm]
    simp only [true_and, Bool.true_eq_false, false_and, or_false]
    constructor
    · rintro ⟨_, _, _, h⟩; simpa using h.symm
    · intro h; exact ⟨hr.1, hr.2, by omega, by simp [h]⟩
  have k2 : ∀ j, 0 ≤ j ∧ j < cellsS p.mems → ((⟨false, j, true⟩ : Place) ∈ placesS p ↔ secM p.mems j = true) := by
    intro r hr
    rw [mem_places p hm]
    simp only [Bool.false_eq_true, false_and, false_or, true_and]
    constructor
    · rintro ⟨_, _, h⟩; exact h.symm
    · intro h; exact ⟨hr.1, hr.2, h.symm⟩
  refine and_congr_right fun _ => and_congr_right fun _ => and_congr ⟨fun h r hr hn => ?_, fun h r hr => ?_⟩ ⟨fun h j hj hn => ?_, fun h j hj => ?_⟩
  · have := h r hr
    rw [h4 r hr, if_neg (by rw [k1 r hr]; exact hn)] at this
    exact this
  · rw [h4 r hr]
    split
    · rfl
    · rename_i hn; rw [k1 r hr] at hn; exact h r hr hn
  · have := h j hj
    rw [h5 j hj, if_neg (by rw [k2 j hj]; simp [hn])] at this
    exact this
  · rw [h5 j hj]
    split
    · rfl
    · rename_i hn; rw [k2 j hj] at hn; exact h j hj (by simpa using hn)
/-- In words of places. -/
theorem lowS_places {p : Prg} {s t : Sta} (hm : Mems p.mems) (hs : s.mem.length = cellsS p.mems) (ht : t.mem.length = cellsS p.mems)
    (hz : ∀ r, 0 ≤ r ∧ r < 4 → p.reg r = 0 → s.reg r = t.reg r) : lowS p s t = true ↔ s.stack = t.stack ∧ s.pc = t.pc ∧ ∀ x ∈ placesS p, x.secret = false → holdP s x = holdP t x := by
  rw [lowS_iff hm hs ht]
  refine and_congr_right fun _ => and_congr_right fun _ => ⟨fun ⟨h1, h2⟩ x hx hn => ?_, fun h => ⟨fun r hr hn => ?_, fun j hj hn => ?_⟩⟩
  · rw [mem_places p hm] at hx
    unfold holdP
    rcases hx with ⟨g1, g2, g3, g4, g5⟩ | ⟨g1, g2, g3, g4⟩
    · rw [g1, if_pos rfl, if_pos rfl]; exact h1 _ ⟨g2, g3⟩ (by intro e; rw [hn] at g5; simp [e] at g5)
    · rw [g1, if_neg (by decide), if_neg (by decide)]; exact h2 _ ⟨g2, g3⟩ (by rw [← g4]; exact hn)
  · by_cases e : p.reg r = 0
    · exact hz r hr e
    · exact h ⟨true, r, false⟩ ((mem_places p hm _).2 (.inl ⟨rfl, hr.1, hr.2, e, by simp [hn]⟩)) rfl
  · exact h ⟨false, j, false⟩ ((mem_places p hm _).2 (.inr ⟨rfl, hj.1, hj.2, hn.symm⟩)) rfl

/-! A state that was begun. -/
theorem fill_hold (w : Int) (c : Int) : ∀ (q : List Place) (l : List Int) (s : Sta), PlacesOk q c → q.Pairwise PApart → l.length = q.length → s.mem.length = c →
    (fillS w q l s).mem.length = c ∧ (fillS w q l s).stack = s.stack ∧ (fillS w q l s).pc = s.pc ∧
    (∀ i : Nat, (h : i < q.length) → holdP (fillS w q l s) q[i] = maskS w (rd l i)) ∧
    (∀ r, 0 ≤ r ∧ r < 4 → (∀ x ∈ q, x.reg = true → x.n ≠ r) → (fillS w q l s).reg r = s.reg r) ∧
    (∀ j, 0 ≤ j ∧ j < c → (∀ x ∈ q, x.reg = false → x.n ≠ j) → rd (fillS w q l s).mem j = rd s.mem j)
  | [], l, s, _, _, _, hc => by
    have e : fillS w [] l s = s := by cases l <;> rfl
    rw [e]
    exact ⟨hc, rfl, rfl, fun i h => by simp at h, fun _ _ _ => rfl, fun _ _ _ => rfl⟩
  | x :: q, [], s, _, _, hl, _ => by simp at hl
  | x :: q, n :: l, s, hq, ha, hl, hc => by
    have hx := hq x (by simp)
    have hq' : PlacesOk q c := fun y hy => hq y (by simp [hy])
    obtain ⟨ha1, ha2⟩ := List.pairwise_cons.1 ha
    have e : fillS w (x :: q) (n :: l) s = fillS w q l (putPlace s x (maskS w n)) := rfl
    rw [e]
    obtain ⟨xr, xn, xs⟩ := x
    cases xr with
    | true =>
      have hr0 := hx.1 rfl
      have e2 : putPlace s ⟨true, xn, xs⟩ (maskS w n) = s.setReg xn (maskS w n) := rfl
      rw [e2]
      obtain ⟨m1, m2, m3⟩ := setReg_mem s xn (maskS w n)
      obtain ⟨h1, h2, h3, h4, h5, h6⟩ := fill_hold w c q l (s.setReg xn (maskS w n)) hq' ha2 (by simpa using hl) (by rw [m1]; exact hc)
      refine ⟨h1, h2.trans m2, h3.trans m3, fun i hi => ?_, fun r hr hn => ?_, fun j hj hn => ?_⟩
      · cases i with
        | zero =>
          show holdP _ (⟨true, xn, xs⟩ : Place) = maskS w (rd (n :: l) ((0 : Nat) : Int))
          unfold holdP
          rw [if_pos rfl, h5 xn hr0 fun y hy hyr hyn => ha1 y hy ⟨hyr.symm, hyn.symm⟩, reg_setReg s _ hr0 hr0, if_pos rfl]
          rfl
        | succ i =>
          have h4i := h4 i (by simpa using hi)
          simp only [List.getElem_cons_succ]
          rw [h4i]
          congr 1
      · rw [h5 r hr fun y hy => hn y (by simp [hy]), reg_setReg s _ hr0 hr, if_neg fun e => hn _ (by simp) rfl e.symm]
      · rw [h6 j hj fun y hy => hn y (by simp [hy]), m1]
    | false =>
      have hr0 := hx.2 rfl
      have e2 : putPlace s ⟨false, xn, xs⟩ (maskS w n) = { s with mem := s.mem.set xn.toNat (maskS w n) } := rfl
      rw [e2]
      obtain ⟨h1, h2, h3, h4, h5, h6⟩ := fill_hold w c q l { s with mem := s.mem.set xn.toNat (maskS w n) } hq' ha2 (by simpa using hl) (by simpa using hc)
      refine ⟨h1, h2, h3, fun i hi => ?_, fun r hr hn => ?_, fun j hj hn => ?_⟩
      · cases i with
        | zero =>
          show holdP _ (⟨false, xn, xs⟩ : Place) = maskS w (rd (n :: l) ((0 : Nat) : Int))
          unfold holdP
          rw [if_neg (by simp)]
          show rd (fillS _ _ _ _).mem xn = _
          rw [h6 xn hr0 fun y hy hyr hyn => ha1 y hy ⟨hyr.symm, hyn.symm⟩]
          simp only
          rw [rd_set _ ⟨hr0.1, by omega⟩ hr0.1, if_pos rfl]
          rfl
        | succ i =>
          have h4i := h4 i (by simpa using hi)
          simp only [List.getElem_cons_succ]
          rw [h4i]
          congr 1
      · rw [h5 r hr fun y hy => hn y (by simp [hy])]; rfl
      · rw [h6 j hj fun y hy => hn y (by simp [hy])]
        simp only
        rw [rd_set _ ⟨hr0.1, by omega⟩ hj.1, if_neg fun e => hn _ (by simp) rfl e.symm]
theorem start_hold (p : Prg) (hm : Mems p.mems) (l : List Int) (hl : l.length = (placesS p).length) : ∃ s, startS p l = (s, true) ∧ s.mem.length = cellsS p.mems ∧ s.stack = [] ∧ s.pc = 0 ∧ (∀ i : Nat, (h : i < (placesS p).length) → holdP s (placesS p)[i] = maskS p.w (rd l i)) ∧ (∀ r, 0 ≤ r ∧ r < 4 → p.reg r = 0 → s.reg r = 0) := by
  have h0 := (places_len p hm).2.2
  obtain ⟨h1, h2, h3, h4, h5, h6⟩ := fill_hold p.w (cellsS p.mems) (placesS p) l (zeroSta (cellsS p.mems).toNat) (places_ok p hm) (places_apart p hm) hl (by simp [zeroSta]; omega)
  refine ⟨_, if_pos hl, h1, h2, h3, h4, fun r hr e => ?_⟩
  rw [h5 r hr ?_]
  · have : r = 0 ∨ r = 1 ∨ r = 2 ∨ r = 3 := by omega
    rcases this with rfl | rfl | rfl | rfl <;> rfl
  · intro x hx hxr hn
    rw [mem_places p hm] at hx
    rcases hx with ⟨g1, g2, g3, g4, g5⟩ | ⟨g1, g2, g3, g4⟩
    · rw [hn] at g4; exact g4 e
    · rw [hxr] at g1; cases g1
noncomputable def v_make (x : List Int × Unit) : Prg := makeS x.1
def sh_make (p : Prg) : RR := .agg (p.cells.map .d)
theorem e_make (x : List Int × Unit) : sh_make (v_make x) = c_make.ans x := rfl
def v_states (x : Prg × List Int × Int) : Sta × Sta := statesS x.1 x.2.1 x.2.2
theorem e_states (x : Prg × List Int × Int) : rss (v_states x) = c_states.ans x := rfl
def sh_states (x : Sta × Sta) : RR := rss x
theorem e_rPlaces (x : Prg) : rplaces (placesS x) = c_rPlaces.ans x := rfl
def v_rPlaces (x : Prg) : List Place := placesS x
def sh_rPlaces (x : List Place) : RR := rplaces x
theorem low_put {p : Prg} {a : Sta} {x : Place} {v : Int} (hm : Mems p.mems) (ha : a.mem.length = cellsS p.mems) (hx : x ∈ placesS p) (hv : v ≠ holdP a x) : lowS p a (putPlace a x v) = x.secret ∧ lowS p (putPlace a x v) a = x.secret ∧ (putPlace a x v).mem.length = cellsS p.mems ∧ (putPlace a x v).stack = a.stack ∧ (putPlace a x v).pc = a.pc := by
  rw [mem_places p hm] at hx
  obtain ⟨xr, xn, xs⟩ := x
  rcases hx with ⟨g1, g2, g3, g4, g5⟩ | ⟨g1, g2, g3, g4⟩ <;> simp only at g1 <;> subst g1
  · have e : putPlace a ⟨true, xn, xs⟩ v = a.setReg xn v := rfl
    simp only at g2 g3 g4 g5
    have hv : v ≠ a.reg xn := hv
    obtain ⟨m1, m2, m3⟩ := setReg_mem a xn v
    rw [e]
    refine ⟨?_, ?_, by rw [m1]; exact ha, m2, m3⟩
    all_goals rw [Bool.eq_iff_iff, lowS_iff hm (by first | exact ha | (rw [m1]; exact ha)) (by first | exact ha | (rw [m1]; exact ha)), m1, m2, m3, g5, decide_eq_true_iff]
    all_goals constructor
    all_goals first
      | (rintro ⟨_, _, h, _⟩
         refine Classical.byContradiction fun hn => ?_
         have := h xn ⟨g2, g3⟩ hn
         rw [reg_setReg a v ⟨g2, g3⟩ ⟨g2, g3⟩, if_pos rfl] at this
         first | exact hv this | exact hv this.symm)
      | (intro h
         refine ⟨rfl, rfl, fun r hr hn => ?_, fun _ _ _ => rfl⟩
         rw [reg_setReg a v ⟨g2, g3⟩ hr, if_neg (fun e => hn (by rw [e]; exact h))])
  · have e : putPlace a ⟨false, xn, xs⟩ v = { a with mem := a.mem.set xn.toNat v } := rfl
    simp only at g2 g3 g4
    have hv : v ≠ rd a.mem xn := hv
    have m1 : ({ a with mem := a.mem.set xn.toNat v } : Sta).mem.length = cellsS p.mems := by simpa using ha
    rw [e]
    refine ⟨?_, ?_, m1, rfl, rfl⟩
    all_goals rw [Bool.eq_iff_iff, lowS_iff hm (by first | exact ha | exact m1) (by first | exact ha | exact m1), g4]
    all_goals constructor
    all_goals first
      | (rintro ⟨_, _, _, h⟩
         refine Classical.byContradiction fun hn => ?_
         have := h xn ⟨g2, g3⟩ (by simpa using hn)
         rw [rd_set v ⟨g2, by omega⟩ g2, if_pos rfl] at this
         first | exact hv this | exact hv this.symm)
      | (intro h
         refine ⟨rfl, rfl, fun r hr hn => rfl, fun j hj hn => ?_⟩
         rw [rd_set v ⟨g2, by omega⟩ hj.1, if_neg (fun e => by rw [e, show secM p.mems xn = true from h] at hn; cases hn)])
theorem low_stack {p : Prg} {s t : Sta} (hm : Mems p.mems) (hs : s.mem.length = cellsS p.mems) (ht : t.mem.length = cellsS p.mems) (h : s.stack ≠ t.stack) : lowS p s t = false := by
  rw [Bool.eq_false_iff]
  intro hc
  exact h ((lowS_iff hm hs ht).1 hc).1
theorem xor1_ne {v : Int} (h0 : 0 ≤ v) (h1 : v < 65536) : bits .xor .i64 v 1 ≠ v := by
  obtain ⟨n, rfl⟩ := Int.eq_ofNat_of_zero_le h0
  have := bits_xorN n 1 (by omega) (by omega)
  rw [show ((1 : Nat) : Int) = 1 from rfl] at this
  rw [this]
  intro h
  have h2 : n ^^^ 1 = n := by exact_mod_cast h
  have h3 : n ^^^ (n ^^^ 1) = n ^^^ n := by rw [h2]
  rw [← Nat.xor_assoc, Nat.xor_self, Nat.zero_xor] at h3
  exact absurd h3 (by decide)
theorem WFM.toMems {p : Prg} (h : WFM p) : Mems p.mems := ⟨by have := h.mems.len; omega, fun m hm => by have := h.mems.n m hm; omega⟩
theorem low_none {p : Prg} {a b : Sta} (hm : Mems p.mems) (hq : (placesS p).length = 0) (ha : a.mem.length = cellsS p.mems) (hb : b.mem.length = cellsS p.mems) {r : Int} (hr : 0 ≤ r ∧ r < 4) (hne : a.reg r ≠ b.reg r) : lowS p a b = false := by
  rw [Bool.eq_false_iff]
  intro hc
  have h1 := ((lowS_iff hm ha hb).1 hc).2.2.1 r hr
  have h2 : p.reg r = 0 := Classical.byContradiction fun h => by
    have := (mem_places p hm ⟨true, r, decide (p.reg r = 2)⟩).2 (.inl ⟨rfl, hr.1, hr.2, h, rfl⟩)
    rw [List.eq_nil_of_length_eq_zero hq] at this
    cases this
  exact hne (h1 (by omega))
theorem low_self {p : Prg} {a : Sta} (hm : Mems p.mems) (ha : a.mem.length = cellsS p.mems) : lowS p a a = true := (lowS_iff hm ha ha).2 ⟨rfl, rfl, fun _ _ _ => rfl, fun _ _ _ => rfl⟩
theorem noplace_reg {p : Prg} (hm : Mems p.mems) (hq : (placesS p).length = 0) {r : Int} (hr : 0 ≤ r ∧ r < 4) : p.reg r = 0 := Classical.byContradiction fun h => by
  have := (mem_places p hm ⟨true, r, decide (p.reg r = 2)⟩).2 (.inl ⟨rfl, hr.1, hr.2, h, rfl⟩)
  rw [List.eq_nil_of_length_eq_zero hq] at this
  cases this
theorem wrap_succ0 {v : Int} (h : v = 0) : v ≠ IntKind.wrap .i64 (v + 1) := by subst h; decide
theorem tmod_range {a : Int} {n : Nat} (ha : 0 ≤ a) (hn : n ≠ 0) : 0 ≤ Int.tmod a n ∧ Int.tmod a n < n := ⟨Int.tmod_nonneg _ ha, Int.tmod_lt_of_pos a (show (0 : Int) < (n : Int) by omega)⟩
end Go.Proofs.Ytmhfhobaicklmaa.Ax
end

section
/- One by one: what runs come to; states that were begun; awake of layer 8. -/
namespace Go.Proofs.Ytmhfhobaicklmaa.Ax
open Go.RowKit
set_option linter.unusedVariables false
set_option linter.unusedSimpArgs false
section
variable {cx : Cx} {rs : List RVar} {R : RR → Prop} {x y : VC}
theorem br_t {b : Bool} (h : b = true) (hx : x.holds cx rs R) : (VC.br b x y).holds cx rs R := by subst h; exact hx
theorem br_f {b : Bool} (h : b = false) (hy : y.holds cx rs R) : (VC.br b x y).holds cx rs R := by subst h; exact hy
end
theorem awake8 : ACalls Try.prog 35 [] (.c (.d (.bool true))) ∧ Enters Try.prog 35 :=
  axG_sound (n := 60) Z_step_ok extE_sound (by intro g sh h; cases h) 8 (by kernel_rfl)
def c_awake8 : FT Unit := ⟨35, fun _ => [], rd0, fun _ => True, fun _ => rb true, false, fun _ => rfl⟩
theorem c_awake8_good : c_awake8.fe.Good Try.prog := FT.good c_awake8 awake8.2 (fun _ => rfl) fun _ _ => awake8.1
noncomputable def v_run : Prg × Sta × Int → Sta × List Obs × Int × Int := fun x => runS x.1 x.2.2.toNat x.2.1
noncomputable def sh_run : Sta × List Obs × Int × Int → RR := fun x => rrun x
theorem e_run (x : Prg × Sta × Int) : sh_run (v_run x) = c_run.ans x := rfl
noncomputable def v_rSame : Sta × Sta → Bool := fun x => decide (x.1 = x.2)
noncomputable def sh_rSame : Bool → RR := fun b => rb b
theorem e_rSame (x : Sta × Sta) : sh_rSame (v_rSame x) = c_rSame.ans x := rfl
noncomputable def v_rSameO : List Obs × List Obs → Bool := fun x => decide (x.1 = x.2)
noncomputable def sh_rSameO : Bool → RR := fun b => rb b
theorem e_rSameO (x : List Obs × List Obs) : sh_rSameO (v_rSameO x) = c_rSameO.ans x := rfl
theorem run_len (p : Prg) : ∀ (n : Nat) (s : Sta), (runS p n s).1.mem.length = s.mem.length ∧ (runS p n s).1.stack.length ≤ max s.stack.length 4 ∧ (runS p n s).2.1.length ≤ n ∧ 0 ≤ (runS p n s).2.2.1 ∧ (runS p n s).2.2.1 ≤ n ∧ ((runS p n s).2.2.2 = 0 → (runS p n s).2.2.1 = n)
  | 0, s => by simp [runS]; omega
  | n + 1, s => by
    obtain ⟨h1, h2, h3⟩ := step_len p s
    by_cases h : (stepS p s).2.2 = 0
    · rw [runS_go h]
      obtain ⟨g1, g2, g3, g4, g5, g6⟩ := run_len p n (stepS p s).1
      refine ⟨g1.trans h1, by dsimp only; omega, by simp only [List.length_append]; omega, by dsimp only; omega, by dsimp only; omega, fun he => by have := g6 he; dsimp only; omega⟩
    · rw [runS_stop h]
      exact ⟨h1, h2, by dsimp only; omega, by simp, by dsimp only; omega, fun he => absurd he h⟩
theorem run_ok {p : Prg} (hp : PrgOk p) : ∀ (n : Nat) {s : Sta}, StaOk p s → StaOk p (runS p n s).1
  | 0, s, hs => hs
  | n + 1, s, hs => by
    by_cases h : (stepS p s).2.2 = 0
    · rw [runS_go h]; exact run_ok hp n (step_ok hp hs)
    · rw [runS_stop h]; exact step_ok hp hs
/-- So many steps, and then the others. -/
theorem run_add (p : Prg) (k : Nat) : ∀ (n : Nat) (s : Sta), runS p (n + k) s = if (runS p n s).2.2.2 = 0 then comb (runS p n s).2.1 n (runS p k (runS p n s).1) else runS p n s
  | 0, s => by simp [runS, comb]
  | n + 1, s => by
    rw [show n + 1 + k = (n + k) + 1 by omega]
    by_cases h : (stepS p s).2.2 = 0
    · rw [runS_go h, runS_go h, run_add p k n (stepS p s).1]
      dsimp only
      split
      · simp [comb, List.append_assoc]
        omega
      · rfl
    · rw [runS_stop h, runS_stop h]
      rw [if_neg h]
theorem start_ok {p : Prg} (hw : okW p.w) (hm : Mems p.mems) (l : List Int) (hl : l.length = (placesS p).length) : StaOk p (startS p l).1 := by
  obtain ⟨s, h0, h1, h2, h3, h4, h5⟩ := start_hold p hm l hl
  have hpos := (pow_small hw).1
  have key : ∀ x ∈ placesS p, 0 ≤ holdP s x ∧ holdP s x < 2 ^ p.w.toNat := by
    intro x hx
    obtain ⟨i, hi, rfl⟩ := List.getElem_of_mem hx
    rw [h4 i hi]
    exact maskS_ok hw _
  rw [h0]
  refine ⟨fun r hr => ?_, fun v hv => ?_, h1, by rw [h2]; simp⟩
  · by_cases e : p.reg r = 0
    · rw [h5 r hr e]; exact ⟨Int.le_refl _, hpos⟩
    · exact key ⟨true, r, decide (p.reg r = 2)⟩ ((mem_places p hm _).2 (.inl ⟨rfl, hr.1, hr.2, e, rfl⟩))
  · obtain ⟨i, hi, rfl⟩ := List.getElem_of_mem hv
    have h1' : (s.mem.length : Int) = cellsS p.mems := h1
    have := key ⟨false, i, secM p.mems i⟩ ((mem_places p hm _).2 (.inr ⟨rfl, by dsimp only; omega, by dsimp only at hi ⊢; omega, rfl⟩))
    unfold holdP at this
    rw [if_neg (by simp)] at this
    dsimp only at this hi ⊢
    rwa [rd_lt _ _ hi] at this
theorem WFM.ok {p : Prg} (h : WFM p) : PrgOk p := by
  have hr := h.regs.hw
  refine ⟨⟨by omega, by omega⟩, h.toMems, by have := h.len; omega, fun i hi => ?_⟩
  have := h.ins i hi
  exact ⟨this.d, this.aN, this.bN⟩
theorem states_ok {p : Prg} (hp : PrgOk p) (l : List Int) (how : Int) : StaOk p (statesS p l how).1 ∧ StaOk p (statesS p l how).2 ∧ (statesS p l how).1.pc = 0 ∧ (statesS p l how).2.pc = 0 ∧ (statesS p l how).1.stack = [] ∧ (statesS p l how).2.stack = [] := by
  have h1 := told_len (placesS p).length (padF l) (placesS p).length
  have h2 := told_len (placesS p).length (twinF how (placesS p) l) (placesS p).length
  obtain ⟨s, a0, a1, a2, a3, a4, a5⟩ := start_hold p hp.mems _ h1
  obtain ⟨t, b0, b1, b2, b3, b4, b5⟩ := start_hold p hp.mems _ h2
  have e1 : (statesS p l how).1 = s := congrArg Prod.fst a0
  have e2 : (statesS p l how).2 = t := congrArg Prod.fst b0
  have g1 := start_ok hp.w hp.mems _ h1
  have g2 := start_ok hp.w hp.mems _ h2
  rw [a0] at g1
  rw [b0] at g2
  rw [e1, e2]
  exact ⟨g1, g2, a3, b3, a2, b2⟩
end Go.Proofs.Ytmhfhobaicklmaa.Ax
end
