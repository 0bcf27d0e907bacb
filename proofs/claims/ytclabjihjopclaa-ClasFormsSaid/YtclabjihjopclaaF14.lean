/- One by one: seqm.Step. -/
import Derived.Test.YtclabjihjopclaaPart1
import Derived.Test.YtclabjihjopclaaAx24
import Derived.Test.YtclabjihjopclaaAxZ
namespace Go.Proofs.Ytclabjihjopclaa.Ax
open Go.RowKit
set_option linter.unusedVariables false
set_option linter.unusedSimpArgs false
def rstep (x : Sta × List Obs × Int) : RR := .tup [.inr (x.1.cells.map .d), .inl (.d (.sl (rowsOn x.2.1))), .inl (.d (.int .i64 x.2.2))]
def rdPS : List A → Prg × Sta
  | [.agg l, .agg s] => (Prg.of l, Sta.of s)
  | _ => default
def rdSI : List A → Sta × Int
  | [.agg s, .c (.int _ i)] => (Sta.of s, i)
  | _ => default
def jumpS (s : Sta) (to : Int) : Sta × List Obs × Int := ({ s with pc := to }, [⟨3, to⟩], 0)
def c_sJump : FT (Sta × Int) := ⟨106, fun x => [as_ x.1, ai x.2], rdSI, fun _ => True, fun x => rstep (jumpS x.1 x.2), true, fun x => by simp [as_, ai, rdSI]⟩
noncomputable def a_sJump : FnA := (fnA Try.prog Try.f106 2 []).getD ⟨0, .skip, [], []⟩
def s_sJump : Sp := spT []
theorem s_sJump_sound : s_sJump.sound Try.prog := spT_sound fun e he => by cases he
set_option maxRecDepth 100000 in
theorem t_sJump (s : Sta) (i : Int) : a_sJump.start s_sJump 400 [as_ s, ai i] =
(VC.ret (some (RR.tup [Sum.inr [Rc.d (D.int IntKind.i64 s.r0), Rc.d (D.int IntKind.i64 s.r1), Rc.d (D.int IntKind.i64 s.r2), Rc.d (D.int IntKind.i64 s.r3), Rc.d (D.sl (rowsOn s.mem)), Rc.d (D.sl (rowsOn s.stack)), Rc.d (D.int IntKind.i64 i)], Sum.inl (Rc.new (2 : Nat) [[D.int IntKind.i64 (3 : Int), D.int IntKind.i64 i]]), Sum.inl (Rc.d (D.int IntKind.i64 (0 : Int)))]))) := by kernel_rfl
theorem c_sJump_good : c_sJump.fe.Good Try.prog := by
  refine FT.good c_sJump ⟨Try.f106, by kernel_rfl, by decide +kernel, by kernel_rfl⟩ (fun ⟨s, i⟩ => by first | rfl | simp [c_sJump, rrRef, rins, rnum, rby, rss, rnewI, rnewE, rstab, rplaces, ri, rb, rib, rstep, Sta.fresh]) fun ⟨s, i⟩ hp => ?_
  refine acalls_leD s_sJump_sound (fn := Try.f106) (a := a_sJump) (nargs := 2) (tbl := []) (by kernel_rfl) (by kernel_rfl) rfl (m := 400) ?_
  show VC.holds _ _ _ (a_sJump.start s_sJump 400 [as_ s, ai i])
  rw [t_sJump]
  try simp only [asRows_sl, asInt_int, asBool_bool, asStr_str, listOf_rowsOn, List.drop_zero, Prg.eta, Sta.eta, rowsOn_length, getD_drop, Nat.reduceAdd, rd_int, rd_PMem_name, rd_PMem_secret, rd_PMem_n, rd_PLabel_name, rd_PLabel_at_, rd_Ins_kind, rd_Ins_op, rd_Ins_d, rd_Ins_aR, rd_Ins_aN, rd_Ins_bR, rd_Ins_bN, rd_Ins_name, rd_Ins_target, rd_Ent_pc, rd_Ent_val, rd_Ent_addr, rd_Ent_fro, rd_Ent_next, rd_Ent_done, rd_Ent_known, rd_Ent_fault, rd_Place_reg, rd_Place_n, rd_Place_secret, rd_Obs_kind, rd_Obs_at_, rd_Dir_kind, rd_Dir_n, Prg.of_cells, Sta.of_cells]
  try simp only [c_sJump] at hp
  repeat' first
    | refine br_not ?_
    | refine br_dec (fun _ => ?_) (fun _ => ?_)
    | refine br_beq (fun _ => ?_) (fun _ => ?_)
    | refine br_bne (fun _ => ?_) (fun _ => ?_)
    | refine br_holds (fun _ => ?_) (fun _ => ?_)
    | refine ⟨PreOk.mk ?_ rfl, ?_⟩
    | refine ⟨idx_ok _ _ _ rfl (by omega) (by omega), ?_⟩
    | refine ⟨okSh_ok _ _ _ (fun _ => rfl) (by omega) (by omega), ?_⟩
    | refine ⟨okSh_okD _ _ _ _ (fun _ => rfl) (by omega) (by omega), ?_⟩
    | refine ⟨aload_ok _ _ rfl (fun _ => rfl) (by omega) (by omega), ?_⟩
    | refine ⟨aload_okD _ _ _ rfl (fun _ => rfl) (by omega) (by omega), ?_⟩
    | refine ⟨astore_ok (by assumption) rfl (by omega) (by omega) (by decide), ?_⟩
    | refine ⟨app_ok (by assumption) rfl rfl (by simp only [List.length_cons, List.length_nil]; omega), ?_⟩
    | refine need_holds ?_ fun _ => ?_
    | refine all_holds fun y hy => ?_
    | refine ret_leD ?_
  exact RR.le_refl _
noncomputable def v_sJump : Sta × Int → Sta × List Obs × Int := fun x => jumpS x.1 x.2
noncomputable def sh_sJump : Sta × List Obs × Int → RR := fun x => rstep x
theorem e_sJump (x : Sta × Int) : sh_sJump (v_sJump x) = c_sJump.ans x := rfl
def backS (s was : Sta) : Sta × List Obs × Int := if s.stack.length = 0 then (was, [], 2) else jumpS { s with stack := s.stack.dropLast } (rd s.stack (s.stack.length - 1))
def c_sBack : FT (Sta × Sta) := ⟨108, fun x => [as_ x.1, as_ x.2], rdSS, fun x => SmallS x.1, fun x => rstep (backS x.1 x.2), true, fun x => by simp [as_, rdSS]⟩
noncomputable def a_sBack : FnA := (fnA Try.prog Try.f108 2 []).getD ⟨0, .skip, [], []⟩
noncomputable def s_sBack : Sp := spT [c_sJump.gfe v_sJump sh_sJump e_sJump]
theorem s_sBack_sound : s_sBack.sound Try.prog := spT_sound fun e he => by
  simp only [List.mem_cons, List.not_mem_nil, or_false] at he
  rcases he with rfl
  · exact FT.gfe_good c_sJump_good
set_option maxRecDepth 100000 in
theorem t_sBack (s t : Sta) : a_sBack.start s_sBack 400 [as_ s, as_ t] =
(VC.br ((↑(List.length (rowsOn s.stack)) : Int) == (0 : Int))
 (VC.ret (some (RR.tup [Sum.inr [Rc.d (D.int IntKind.i64 t.r0), Rc.d (D.int IntKind.i64 t.r1), Rc.d (D.int IntKind.i64 t.r2), Rc.d (D.int IntKind.i64 t.r3), Rc.d (D.sl (rowsOn t.mem)), Rc.d (D.sl (rowsOn t.stack)), Rc.d (D.int IntKind.i64 t.pc)], Sum.inl Rc.nil, Sum.inl (Rc.d (D.int IntKind.i64 (2 : Int)))])))
 (VC.need ((0 : Int) ≤ IntKind.wrap IntKind.i64 ((↑(List.length (rowsOn s.stack)) : Int) - (1 : Int)) ∧ IntKind.wrap IntKind.i64 ((↑(List.length (rowsOn s.stack)) : Int) - (1 : Int)) < (↑(List.length (rowsOn s.stack)) : Int) ∧ List.length (rowAt (rowsOn s.stack) (Int.toNat (IntKind.wrap IntKind.i64 ((↑(List.length (rowsOn s.stack)) : Int) - (1 : Int))))) = (1 : Nat))
 (VC.need (okSh [Kd.int IntKind.i64] (rowAt (rowsOn s.stack) (Int.toNat (IntKind.wrap IntKind.i64 ((↑(List.length (rowsOn s.stack)) : Int) - (1 : Int))))))
 (VC.need ((List.all (rowsOn s.stack) fun r ↦ List.length r == (1 : Nat)) = true ∧ (0 : Int) ≤ (0 : Int) ∧ (0 : Int) ≤ IntKind.wrap IntKind.i64 ((↑(List.length (rowsOn s.stack)) : Int) - (1 : Int)) ∧ IntKind.wrap IntKind.i64 ((↑(List.length (rowsOn s.stack)) : Int) - (1 : Int)) ≤ (↑(List.length (rowsOn s.stack)) : Int))
 (VC.need (PreOk c_sJump (Sta.of [D.int IntKind.i64 s.r0, D.int IntKind.i64 s.r1, D.int IntKind.i64 s.r2, D.int IntKind.i64 s.r3, D.sl (rowsOn s.mem), D.sl (List.drop (0 : Nat) (List.take (Int.toNat (IntKind.wrap IntKind.i64 ((↑(List.length (rowsOn s.stack)) : Int) - (1 : Int)))) (rowsOn s.stack))), D.int IntKind.i64 s.pc], asInt (List.getD (rowAt (rowsOn s.stack) (Int.toNat (IntKind.wrap IntKind.i64 ((↑(List.length (rowsOn s.stack)) : Int) - (1 : Int))))) (0 : Nat) D.nilp)) [A.agg [D.int IntKind.i64 s.r0, D.int IntKind.i64 s.r1, D.int IntKind.i64 s.r2, D.int IntKind.i64 s.r3, D.sl (rowsOn s.mem), D.sl (List.drop (0 : Nat) (List.take (Int.toNat (IntKind.wrap IntKind.i64 ((↑(List.length (rowsOn s.stack)) : Int) - (1 : Int)))) (rowsOn s.stack))), D.int IntKind.i64 s.pc], A.c (D.int IntKind.i64 (asInt (List.getD (rowAt (rowsOn s.stack) (Int.toNat (IntKind.wrap IntKind.i64 ((↑(List.length (rowsOn s.stack)) : Int) - (1 : Int))))) (0 : Nat) D.nilp)))])
 (VC.all (({ r0 := s.r0, r1 := s.r1, r2 := s.r2, r3 := s.r3, mem := listOf Int (rowsOn s.mem), stack := listOf Int (List.drop (0 : Nat) (List.take (Int.toNat (IntKind.wrap IntKind.i64 ((↑(List.length (rowsOn s.stack)) : Int) - (1 : Int)))) (rowsOn s.stack))), pc := asInt (List.getD (rowAt (rowsOn s.stack) (Int.toNat (IntKind.wrap IntKind.i64 ((↑(List.length (rowsOn s.stack)) : Int) - (1 : Int))))) (0 : Nat) D.nilp) }, [{ kind := (3 : Int), at_ := asInt (List.getD (rowAt (rowsOn s.stack) (Int.toNat (IntKind.wrap IntKind.i64 ((↑(List.length (rowsOn s.stack)) : Int) - (1 : Int))))) (0 : Nat) D.nilp) }], (0 : Int))) fun (y2 : Sta × List Obs × Int) =>
 (VC.ret (some (RR.tup [Sum.inr [Rc.d (D.int IntKind.i64 y2.fst.r0), Rc.d (D.int IntKind.i64 y2.fst.r1), Rc.d (D.int IntKind.i64 y2.fst.r2), Rc.d (D.int IntKind.i64 y2.fst.r3), Rc.d (D.sl (rowsOn y2.fst.mem)), Rc.d (D.sl (rowsOn y2.fst.stack)), Rc.d (D.int IntKind.i64 y2.fst.pc)], Sum.inl (Rc.d (D.sl (rowsOn y2.snd.fst))), Sum.inl (Rc.d (D.int IntKind.i64 y2.snd.snd))]))))))))) := by kernel_rfl
theorem c_sBack_good : c_sBack.fe.Good Try.prog := by
  refine FT.good c_sBack ⟨Try.f108, by kernel_rfl, by decide +kernel, by kernel_rfl⟩ (fun ⟨s, t⟩ => by first | rfl | simp [c_sBack, rrRef, rins, rnum, rby, rss, rnewI, rnewE, rstab, rplaces, ri, rb, rib, rstep, Sta.fresh]) fun ⟨s, t⟩ hp => ?_
  refine acalls_leD s_sBack_sound (fn := Try.f108) (a := a_sBack) (nargs := 2) (tbl := []) (by kernel_rfl) (by kernel_rfl) rfl (m := 400) ?_
  show VC.holds _ _ _ (a_sBack.start s_sBack 400 [as_ s, as_ t])
  rw [t_sBack]
  try simp only [asRows_sl, asInt_int, asBool_bool, asStr_str, listOf_rowsOn, List.drop_zero, Prg.eta, Sta.eta, rowsOn_length, getD_drop, Nat.reduceAdd, rd_int, rd_PMem_name, rd_PMem_secret, rd_PMem_n, rd_PLabel_name, rd_PLabel_at_, rd_Ins_kind, rd_Ins_op, rd_Ins_d, rd_Ins_aR, rd_Ins_aN, rd_Ins_bR, rd_Ins_bN, rd_Ins_name, rd_Ins_target, rd_Ent_pc, rd_Ent_val, rd_Ent_addr, rd_Ent_fro, rd_Ent_next, rd_Ent_done, rd_Ent_known, rd_Ent_fault, rd_Place_reg, rd_Place_n, rd_Place_secret, rd_Obs_kind, rd_Obs_at_, rd_Dir_kind, rd_Dir_n, Prg.of_cells, Sta.of_cells]
  try simp only [c_sBack] at hp
  obtain ⟨h1, h2⟩ := hp
  by_cases h0 : s.stack.length = 0
  · have e : c_sBack.ans (s, t) = rstep (t, [], 2) := congrArg rstep (if_pos h0)
    rw [e]
    repeat' first
      | refine br_not ?_
      | refine br_dec (fun _ => ?_) (fun _ => ?_)
      | refine br_beq (fun _ => ?_) (fun _ => ?_)
      | refine br_bne (fun _ => ?_) (fun _ => ?_)
      | refine br_holds (fun _ => ?_) (fun _ => ?_)
      | refine ⟨PreOk.mk ?_ rfl, ?_⟩
      | refine ⟨idx_ok _ _ _ rfl (by omega) (by omega), ?_⟩
      | refine ⟨okSh_ok _ _ _ (fun _ => rfl) (by omega) (by omega), ?_⟩
      | refine ⟨okSh_okD _ _ _ _ (fun _ => rfl) (by omega) (by omega), ?_⟩
      | refine ⟨aload_ok _ _ rfl (fun _ => rfl) (by omega) (by omega), ?_⟩
      | refine ⟨aload_okD _ _ _ rfl (fun _ => rfl) (by omega) (by omega), ?_⟩
      | refine ⟨astore_ok (by assumption) rfl (by omega) (by omega) (by decide), ?_⟩
      | refine ⟨app_ok (by assumption) rfl rfl (by simp only [List.length_cons, List.length_nil]; omega), ?_⟩
      | refine need_holds ?_ fun _ => ?_
      | refine all_holds fun y hy => ?_
      | refine ret_leD ?_
    all_goals try (exfalso; omega)
    all_goals exact RR.le_of_eq rfl
  · have e : c_sBack.ans (s, t) = rstep (jumpS { s with stack := s.stack.dropLast } (rd s.stack (s.stack.length - 1))) := congrArg rstep (if_neg h0)
    rw [e, wrap_small (s.stack.length - 1 : Int) (by omega) (by omega)]
    have et : List.take (Int.toNat ((s.stack.length : Int) - 1)) (rowsOn s.stack) = rowsOn s.stack.dropLast := by
      rw [show Int.toNat ((s.stack.length : Int) - 1) = s.stack.length - 1 by omega, List.dropLast_eq_take]
      unfold rowsOn
      rw [List.map_take]
    rw [et]
    have ec : (Sta.of [.int .i64 s.r0, .int .i64 s.r1, .int .i64 s.r2, .int .i64 s.r3, .sl (rowsOn s.mem), .sl (rowsOn s.stack.dropLast), .int .i64 s.pc]) = { s with stack := s.stack.dropLast } := by simp [Sta.of]
    rw [ec]
    repeat' first
      | refine br_not ?_
      | refine br_dec (fun _ => ?_) (fun _ => ?_)
      | refine br_beq (fun _ => ?_) (fun _ => ?_)
      | refine br_bne (fun _ => ?_) (fun _ => ?_)
      | refine br_holds (fun _ => ?_) (fun _ => ?_)
      | refine ⟨PreOk.mk ?_ rfl, ?_⟩
      | refine ⟨idx_ok _ _ _ rfl (by omega) (by omega), ?_⟩
      | refine ⟨okSh_ok _ _ _ (fun _ => rfl) (by omega) (by omega), ?_⟩
      | refine ⟨okSh_okD _ _ _ _ (fun _ => rfl) (by omega) (by omega), ?_⟩
      | refine ⟨aload_ok _ _ rfl (fun _ => rfl) (by omega) (by omega), ?_⟩
      | refine ⟨aload_okD _ _ _ rfl (fun _ => rfl) (by omega) (by omega), ?_⟩
      | refine ⟨astore_ok (by assumption) rfl (by omega) (by omega) (by decide), ?_⟩
      | refine ⟨app_ok (by assumption) rfl rfl (by simp only [List.length_cons, List.length_nil]; omega), ?_⟩
      | refine need_holds ?_ fun _ => ?_
      | refine all_holds fun y hy => ?_
      | refine ret_leD ?_
    all_goals try (exfalso; omega)
    all_goals try exact idx_ok _ _ _ rfl (by omega) (by omega)
    · exact ⟨all1 _, by omega, by omega, by omega⟩
    · exact trivial
    · subst_vars
      refine RR.le_of_eq ?_
      simp [RR.data, Rc.data, rstep, jumpS, Sta.cells]
noncomputable def v_sBack : Sta × Sta → Sta × List Obs × Int := fun x => backS x.1 x.2
noncomputable def sh_sBack : Sta × List Obs × Int → RR := fun x => rstep x
theorem e_sBack (x : Sta × Sta) : sh_sBack (v_sBack x) = c_sBack.ans x := rfl
/-- seqm.put and touch are run in their callers' places. -/
noncomputable def Z_t : Zo := mkZ Try.prog 200000 [(101, ⟨300000, fun _ => none, fun _ => none⟩)]
noncomputable def Z_step : Zo := mkZ Try.prog 0 [(101, ⟨100000, fun _ => none, fun _ => none⟩), (105, Z_t)]
theorem Z_step_ok : ZOK Try.prog 2 Z_step := zok_mk fun p hp => by
  simp only [List.mem_cons, List.not_mem_nil, or_false] at hp
  rcases hp with rfl | rfl
  · exact zok_none _ _ _
  · exact zok_mk fun p hp => by
      simp only [List.mem_cons, List.not_mem_nil, or_false] at hp
      subst hp
      exact zok_none _ _ _
noncomputable def v_aStill : Sta × Unit → Sta := fun x => x.1
noncomputable def sh_aStill : Sta → RR := fun s => .agg s.fresh
theorem e_aStill (x : Sta × Unit) : sh_aStill (v_aStill x) = c_aStill.ans x := rfl
noncomputable def a_step : FnA := (fnAZ Try.prog Z_step Try.f57 2 []).getD ⟨0, .skip, [], []⟩
noncomputable def s_step : Sp := spT [c_aStill.gfe v_aStill sh_aStill e_aStill, c_sAt.gfe v_sAt sh_sAt e_sAt, c_sVal.gfe v_sVal sh_sVal e_sVal, c_sReg.gfe v_sReg sh_sReg e_sReg, c_sValue.gfe v_sValue sh_sValue e_sValue, c_sAddr.gfe v_sAddr sh_sAddr e_sAddr, c_sWay.gfe v_sWay sh_sWay e_sWay, c_sJump.gfe v_sJump sh_sJump e_sJump, c_sBack.gfe v_sBack sh_sBack e_sBack]
theorem s_step_sound : s_step.sound Try.prog := spT_sound fun e he => by
  simp only [List.mem_cons, List.not_mem_nil, or_false] at he
  rcases he with rfl | rfl | rfl | rfl | rfl | rfl | rfl | rfl | rfl
  · exact FT.gfe_good c_aStill_good
  · exact FT.gfe_good c_sAt_good
  · exact FT.gfe_good c_sVal_good
  · exact FT.gfe_good c_sReg_good
  · exact FT.gfe_good c_sValue_good
  · exact FT.gfe_good c_sAddr_good
  · exact FT.gfe_good c_sWay_good
  · exact FT.gfe_good c_sJump_good
  · exact FT.gfe_good c_sBack_good
set_option maxRecDepth 100000 in
theorem t_step (p : Prg) (s : Sta) : a_step.start s_step 400 [ap p, as_ s] =
(VC.need (PreOk c_aStill (Sta.of (Sta.cells s), ()) [A.agg (Sta.cells s)])
(VC.all (v_aStill (Sta.of (Sta.cells s), ())) fun (y2 : Sta) =>
(VC.need (PreOk c_aStill (Sta.of (Sta.cells s), ()) [A.agg (Sta.cells s)])
(VC.all (v_aStill (Sta.of (Sta.cells s), ())) fun (y3 : Sta) =>
(VC.need (PreOk c_sAt (Prg.of (Prg.cells p), y3.pc) [A.agg (Prg.cells p), A.c (D.int IntKind.i64 y3.pc)])
(VC.all (v_sAt (Prg.of (Prg.cells p), y3.pc)) fun (y4 : Ins) =>
(VC.br (y4.kind == (1 : Int))
 (VC.need (PreOk c_sVal (Prg.of (Prg.cells p), Sta.of (Sta.cells y3), y4.aR, y4.aN) [A.agg (Prg.cells p), A.agg (Sta.cells y3), A.agg [D.bool y4.aR, D.int IntKind.i64 y4.aN]])
 (VC.all (v_sVal (Prg.of (Prg.cells p), Sta.of (Sta.cells y3), y4.aR, y4.aN)) fun (y5 : Int) =>
 (VC.need (PreOk c_sVal (Prg.of (Prg.cells p), Sta.of (Sta.cells y3), y4.bR, y4.bN) [A.agg (Prg.cells p), A.agg (Sta.cells y3), A.agg [D.bool y4.bR, D.int IntKind.i64 y4.bN]])
 (VC.all (v_sVal (Prg.of (Prg.cells p), Sta.of (Sta.cells y3), y4.bR, y4.bN)) fun (y6 : Int) =>
 (VC.need (PreOk c_sReg (Prg.of (Prg.cells p), Sta.of (Sta.cells y3), y4.d) [A.agg (Prg.cells p), A.agg (Sta.cells y3), A.c (D.int IntKind.i64 y4.d)])
 (VC.all (v_sReg (Prg.of (Prg.cells p), Sta.of (Sta.cells y3), y4.d)) fun (y7 : Int) =>
 (VC.need (PreOk c_sValue (Prg.of (Prg.cells p), Row.of [D.int IntKind.i64 y4.kind, D.int IntKind.i64 y4.op, D.int IntKind.i64 y4.d, D.bool y4.aR, D.int IntKind.i64 y4.aN, D.bool y4.bR, D.int IntKind.i64 y4.bN, D.str y4.name, D.int IntKind.i64 y4.target], y5, y6, y7) [A.agg (Prg.cells p), A.agg [D.int IntKind.i64 y4.kind, D.int IntKind.i64 y4.op, D.int IntKind.i64 y4.d, D.bool y4.aR, D.int IntKind.i64 y4.aN, D.bool y4.bR, D.int IntKind.i64 y4.bN, D.str y4.name, D.int IntKind.i64 y4.target], A.c (D.int IntKind.i64 y5), A.c (D.int IntKind.i64 y6), A.c (D.int IntKind.i64 y7)])
 (VC.all (v_sValue (Prg.of (Prg.cells p), Row.of [D.int IntKind.i64 y4.kind, D.int IntKind.i64 y4.op, D.int IntKind.i64 y4.d, D.bool y4.aR, D.int IntKind.i64 y4.aN, D.bool y4.bR, D.int IntKind.i64 y4.bN, D.str y4.name, D.int IntKind.i64 y4.target], y5, y6, y7)) fun (y8 : Int) =>
 (VC.br (decide ((0 : Int) ≤ y4.d))
  (VC.br (decide (y4.d < (4 : Int)))
   (VC.br (decide (y4.d = (0 : Int)))
    (VC.ret (some (RR.tup [Sum.inr [Rc.d (D.int IntKind.i64 y8), Rc.d (D.int IntKind.i64 y3.r1), Rc.d (D.int IntKind.i64 y3.r2), Rc.d (D.int IntKind.i64 y3.r3), Rc.new (1 : Nat) (rowsOn y3.mem), Rc.new (1 : Nat) (rowsOn y3.stack), Rc.d (D.int IntKind.i64 (IntKind.wrap IntKind.i64 (y3.pc + (1 : Int))))], Sum.inl Rc.nil, Sum.inl (Rc.d (D.int IntKind.i64 (0 : Int)))])))
    (VC.br (decide (y4.d = (1 : Int)))
     (VC.ret (some (RR.tup [Sum.inr [Rc.d (D.int IntKind.i64 y3.r0), Rc.d (D.int IntKind.i64 y8), Rc.d (D.int IntKind.i64 y3.r2), Rc.d (D.int IntKind.i64 y3.r3), Rc.new (1 : Nat) (rowsOn y3.mem), Rc.new (1 : Nat) (rowsOn y3.stack), Rc.d (D.int IntKind.i64 (IntKind.wrap IntKind.i64 (y3.pc + (1 : Int))))], Sum.inl Rc.nil, Sum.inl (Rc.d (D.int IntKind.i64 (0 : Int)))])))
     (VC.br (decide (y4.d = (2 : Int)))
      (VC.ret (some (RR.tup [Sum.inr [Rc.d (D.int IntKind.i64 y3.r0), Rc.d (D.int IntKind.i64 y3.r1), Rc.d (D.int IntKind.i64 y8), Rc.d (D.int IntKind.i64 y3.r3), Rc.new (1 : Nat) (rowsOn y3.mem), Rc.new (1 : Nat) (rowsOn y3.stack), Rc.d (D.int IntKind.i64 (IntKind.wrap IntKind.i64 (y3.pc + (1 : Int))))], Sum.inl Rc.nil, Sum.inl (Rc.d (D.int IntKind.i64 (0 : Int)))])))
      (VC.br (decide (y4.d = (3 : Int)))
       (VC.ret (some (RR.tup [Sum.inr [Rc.d (D.int IntKind.i64 y3.r0), Rc.d (D.int IntKind.i64 y3.r1), Rc.d (D.int IntKind.i64 y3.r2), Rc.d (D.int IntKind.i64 y8), Rc.new (1 : Nat) (rowsOn y3.mem), Rc.new (1 : Nat) (rowsOn y3.stack), Rc.d (D.int IntKind.i64 (IntKind.wrap IntKind.i64 (y3.pc + (1 : Int))))], Sum.inl Rc.nil, Sum.inl (Rc.d (D.int IntKind.i64 (0 : Int)))])))
       VC.ff))))
   (VC.ret (some (RR.tup [Sum.inr [Rc.d (D.int IntKind.i64 y3.r0), Rc.d (D.int IntKind.i64 y3.r1), Rc.d (D.int IntKind.i64 y3.r2), Rc.d (D.int IntKind.i64 y3.r3), Rc.new (1 : Nat) (rowsOn y3.mem), Rc.new (1 : Nat) (rowsOn y3.stack), Rc.d (D.int IntKind.i64 (IntKind.wrap IntKind.i64 (y3.pc + (1 : Int))))], Sum.inl Rc.nil, Sum.inl (Rc.d (D.int IntKind.i64 (0 : Int)))]))))
  (VC.ret (some (RR.tup [Sum.inr [Rc.d (D.int IntKind.i64 y3.r0), Rc.d (D.int IntKind.i64 y3.r1), Rc.d (D.int IntKind.i64 y3.r2), Rc.d (D.int IntKind.i64 y3.r3), Rc.new (1 : Nat) (rowsOn y3.mem), Rc.new (1 : Nat) (rowsOn y3.stack), Rc.d (D.int IntKind.i64 (IntKind.wrap IntKind.i64 (y3.pc + (1 : Int))))], Sum.inl Rc.nil, Sum.inl (Rc.d (D.int IntKind.i64 (0 : Int)))]))))))))))))
 (VC.br (y4.kind == (4 : Int))
  (VC.need (PreOk c_sVal (Prg.of (Prg.cells p), Sta.of (Sta.cells y3), y4.aR, y4.aN) [A.agg (Prg.cells p), A.agg (Sta.cells y3), A.agg [D.bool y4.aR, D.int IntKind.i64 y4.aN]])
  (VC.all (v_sVal (Prg.of (Prg.cells p), Sta.of (Sta.cells y3), y4.aR, y4.aN)) fun (y5 : Int) =>
  (VC.need (PreOk c_sVal (Prg.of (Prg.cells p), Sta.of (Sta.cells y3), y4.bR, y4.bN) [A.agg (Prg.cells p), A.agg (Sta.cells y3), A.agg [D.bool y4.bR, D.int IntKind.i64 y4.bN]])
  (VC.all (v_sVal (Prg.of (Prg.cells p), Sta.of (Sta.cells y3), y4.bR, y4.bN)) fun (y6 : Int) =>
  (VC.need (PreOk c_sReg (Prg.of (Prg.cells p), Sta.of (Sta.cells y3), y4.d) [A.agg (Prg.cells p), A.agg (Sta.cells y3), A.c (D.int IntKind.i64 y4.d)])
  (VC.all (v_sReg (Prg.of (Prg.cells p), Sta.of (Sta.cells y3), y4.d)) fun (y7 : Int) =>
  (VC.need (PreOk c_sValue (Prg.of (Prg.cells p), Row.of [D.int IntKind.i64 y4.kind, D.int IntKind.i64 y4.op, D.int IntKind.i64 y4.d, D.bool y4.aR, D.int IntKind.i64 y4.aN, D.bool y4.bR, D.int IntKind.i64 y4.bN, D.str y4.name, D.int IntKind.i64 y4.target], y5, y6, y7) [A.agg (Prg.cells p), A.agg [D.int IntKind.i64 y4.kind, D.int IntKind.i64 y4.op, D.int IntKind.i64 y4.d, D.bool y4.aR, D.int IntKind.i64 y4.aN, D.bool y4.bR, D.int IntKind.i64 y4.bN, D.str y4.name, D.int IntKind.i64 y4.target], A.c (D.int IntKind.i64 y5), A.c (D.int IntKind.i64 y6), A.c (D.int IntKind.i64 y7)])
  (VC.all (v_sValue (Prg.of (Prg.cells p), Row.of [D.int IntKind.i64 y4.kind, D.int IntKind.i64 y4.op, D.int IntKind.i64 y4.d, D.bool y4.aR, D.int IntKind.i64 y4.aN, D.bool y4.bR, D.int IntKind.i64 y4.bN, D.str y4.name, D.int IntKind.i64 y4.target], y5, y6, y7)) fun (y8 : Int) =>
  (VC.br (decide ((0 : Int) ≤ y4.d))
   (VC.br (decide (y4.d < (4 : Int)))
    (VC.br (decide (y4.d = (0 : Int)))
     (VC.ret (some (RR.tup [Sum.inr [Rc.d (D.int IntKind.i64 y8), Rc.d (D.int IntKind.i64 y3.r1), Rc.d (D.int IntKind.i64 y3.r2), Rc.d (D.int IntKind.i64 y3.r3), Rc.new (1 : Nat) (rowsOn y3.mem), Rc.new (1 : Nat) (rowsOn y3.stack), Rc.d (D.int IntKind.i64 (IntKind.wrap IntKind.i64 (y3.pc + (1 : Int))))], Sum.inl Rc.nil, Sum.inl (Rc.d (D.int IntKind.i64 (0 : Int)))])))
     (VC.br (decide (y4.d = (1 : Int)))
      (VC.ret (some (RR.tup [Sum.inr [Rc.d (D.int IntKind.i64 y3.r0), Rc.d (D.int IntKind.i64 y8), Rc.d (D.int IntKind.i64 y3.r2), Rc.d (D.int IntKind.i64 y3.r3), Rc.new (1 : Nat) (rowsOn y3.mem), Rc.new (1 : Nat) (rowsOn y3.stack), Rc.d (D.int IntKind.i64 (IntKind.wrap IntKind.i64 (y3.pc + (1 : Int))))], Sum.inl Rc.nil, Sum.inl (Rc.d (D.int IntKind.i64 (0 : Int)))])))
      (VC.br (decide (y4.d = (2 : Int)))
       (VC.ret (some (RR.tup [Sum.inr [Rc.d (D.int IntKind.i64 y3.r0), Rc.d (D.int IntKind.i64 y3.r1), Rc.d (D.int IntKind.i64 y8), Rc.d (D.int IntKind.i64 y3.r3), Rc.new (1 : Nat) (rowsOn y3.mem), Rc.new (1 : Nat) (rowsOn y3.stack), Rc.d (D.int IntKind.i64 (IntKind.wrap IntKind.i64 (y3.pc + (1 : Int))))], Sum.inl Rc.nil, Sum.inl (Rc.d (D.int IntKind.i64 (0 : Int)))])))
       (VC.br (decide (y4.d = (3 : Int)))
        (VC.ret (some (RR.tup [Sum.inr [Rc.d (D.int IntKind.i64 y3.r0), Rc.d (D.int IntKind.i64 y3.r1), Rc.d (D.int IntKind.i64 y3.r2), Rc.d (D.int IntKind.i64 y8), Rc.new (1 : Nat) (rowsOn y3.mem), Rc.new (1 : Nat) (rowsOn y3.stack), Rc.d (D.int IntKind.i64 (IntKind.wrap IntKind.i64 (y3.pc + (1 : Int))))], Sum.inl Rc.nil, Sum.inl (Rc.d (D.int IntKind.i64 (0 : Int)))])))
        VC.ff))))
    (VC.ret (some (RR.tup [Sum.inr [Rc.d (D.int IntKind.i64 y3.r0), Rc.d (D.int IntKind.i64 y3.r1), Rc.d (D.int IntKind.i64 y3.r2), Rc.d (D.int IntKind.i64 y3.r3), Rc.new (1 : Nat) (rowsOn y3.mem), Rc.new (1 : Nat) (rowsOn y3.stack), Rc.d (D.int IntKind.i64 (IntKind.wrap IntKind.i64 (y3.pc + (1 : Int))))], Sum.inl Rc.nil, Sum.inl (Rc.d (D.int IntKind.i64 (0 : Int)))]))))
   (VC.ret (some (RR.tup [Sum.inr [Rc.d (D.int IntKind.i64 y3.r0), Rc.d (D.int IntKind.i64 y3.r1), Rc.d (D.int IntKind.i64 y3.r2), Rc.d (D.int IntKind.i64 y3.r3), Rc.new (1 : Nat) (rowsOn y3.mem), Rc.new (1 : Nat) (rowsOn y3.stack), Rc.d (D.int IntKind.i64 (IntKind.wrap IntKind.i64 (y3.pc + (1 : Int))))], Sum.inl Rc.nil, Sum.inl (Rc.d (D.int IntKind.i64 (0 : Int)))]))))))))))))
  (VC.br (y4.kind == (2 : Int))
   (VC.need (PreOk c_sVal (Prg.of (Prg.cells p), Sta.of (Sta.cells y3), y4.aR, y4.aN) [A.agg (Prg.cells p), A.agg (Sta.cells y3), A.agg [D.bool y4.aR, D.int IntKind.i64 y4.aN]])
   (VC.all (v_sVal (Prg.of (Prg.cells p), Sta.of (Sta.cells y3), y4.aR, y4.aN)) fun (y5 : Int) =>
   (VC.need (PreOk c_sVal (Prg.of (Prg.cells p), Sta.of (Sta.cells y3), y4.bR, y4.bN) [A.agg (Prg.cells p), A.agg (Sta.cells y3), A.agg [D.bool y4.bR, D.int IntKind.i64 y4.bN]])
   (VC.all (v_sVal (Prg.of (Prg.cells p), Sta.of (Sta.cells y3), y4.bR, y4.bN)) fun (y6 : Int) =>
   (VC.need (PreOk c_sAddr (Prg.of (Prg.cells p), y5, y6) [A.agg (Prg.cells p), A.c (D.int IntKind.i64 y5), A.c (D.int IntKind.i64 y6)])
   (VC.all ((maskS p.w (y5 + y6), decide (maskS p.w (y5 + y6) < cellsS (listOf PMem (rowsOn p.mems))))) fun (y7 : Int × Bool) =>
   (VC.br (!y7.snd)
    (VC.ret (some (RR.tup [Sum.inr [Rc.d (D.int IntKind.i64 y2.r0), Rc.d (D.int IntKind.i64 y2.r1), Rc.d (D.int IntKind.i64 y2.r2), Rc.d (D.int IntKind.i64 y2.r3), Rc.new (1 : Nat) (rowsOn y2.mem), Rc.new (1 : Nat) (rowsOn y2.stack), Rc.d (D.int IntKind.i64 y2.pc)], Sum.inl Rc.nil, Sum.inl (Rc.d (D.int IntKind.i64 (2 : Int)))])))
    (VC.br (decide ((↑(List.length (rowsOn y3.mem)) : Int) ≤ y7.fst))
     (VC.ret (some (RR.tup [Sum.inr [Rc.d (D.int IntKind.i64 y2.r0), Rc.d (D.int IntKind.i64 y2.r1), Rc.d (D.int IntKind.i64 y2.r2), Rc.d (D.int IntKind.i64 y2.r3), Rc.new (1 : Nat) (rowsOn y2.mem), Rc.new (1 : Nat) (rowsOn y2.stack), Rc.d (D.int IntKind.i64 y2.pc)], Sum.inl Rc.nil, Sum.inl (Rc.d (D.int IntKind.i64 (2 : Int)))])))
     (VC.br (y4.kind == (2 : Int))
      (VC.need ((0 : Int) ≤ y7.fst ∧ y7.fst < (↑(List.length (rowsOn y3.mem)) : Int))
      (VC.need (Int.toNat y7.fst < List.length (rowsOn y3.mem) ∧ List.length (rowAt (rowsOn y3.mem) (Int.toNat y7.fst)) = (1 : Nat) ∧ okSh [Kd.int IntKind.i64] (List.drop (0 : Nat) (rowAt (rowsOn y3.mem) (Int.toNat y7.fst))))
      (VC.br (decide ((0 : Int) ≤ y4.d))
       (VC.br (decide (y4.d < (4 : Int)))
        (VC.br (decide (y4.d = (0 : Int)))
         (VC.ret (some (RR.tup [Sum.inr [Rc.d (D.int IntKind.i64 (asInt (List.getD (List.drop (0 : Nat) (rowAt (rowsOn y3.mem) (Int.toNat y7.fst))) (0 : Nat) D.nilp))), Rc.d (D.int IntKind.i64 y3.r1), Rc.d (D.int IntKind.i64 y3.r2), Rc.d (D.int IntKind.i64 y3.r3), Rc.new (1 : Nat) (rowsOn y3.mem), Rc.new (1 : Nat) (rowsOn y3.stack), Rc.d (D.int IntKind.i64 (IntKind.wrap IntKind.i64 (y3.pc + (1 : Int))))], Sum.inl (Rc.new (2 : Nat) [[D.int IntKind.i64 (1 : Int), D.int IntKind.i64 y7.fst]]), Sum.inl (Rc.d (D.int IntKind.i64 (0 : Int)))])))
         (VC.br (decide (y4.d = (1 : Int)))
          (VC.ret (some (RR.tup [Sum.inr [Rc.d (D.int IntKind.i64 y3.r0), Rc.d (D.int IntKind.i64 (asInt (List.getD (List.drop (0 : Nat) (rowAt (rowsOn y3.mem) (Int.toNat y7.fst))) (0 : Nat) D.nilp))), Rc.d (D.int IntKind.i64 y3.r2), Rc.d (D.int IntKind.i64 y3.r3), Rc.new (1 : Nat) (rowsOn y3.mem), Rc.new (1 : Nat) (rowsOn y3.stack), Rc.d (D.int IntKind.i64 (IntKind.wrap IntKind.i64 (y3.pc + (1 : Int))))], Sum.inl (Rc.new (2 : Nat) [[D.int IntKind.i64 (1 : Int), D.int IntKind.i64 y7.fst]]), Sum.inl (Rc.d (D.int IntKind.i64 (0 : Int)))])))
          (VC.br (decide (y4.d = (2 : Int)))
           (VC.ret (some (RR.tup [Sum.inr [Rc.d (D.int IntKind.i64 y3.r0), Rc.d (D.int IntKind.i64 y3.r1), Rc.d (D.int IntKind.i64 (asInt (List.getD (List.drop (0 : Nat) (rowAt (rowsOn y3.mem) (Int.toNat y7.fst))) (0 : Nat) D.nilp))), Rc.d (D.int IntKind.i64 y3.r3), Rc.new (1 : Nat) (rowsOn y3.mem), Rc.new (1 : Nat) (rowsOn y3.stack), Rc.d (D.int IntKind.i64 (IntKind.wrap IntKind.i64 (y3.pc + (1 : Int))))], Sum.inl (Rc.new (2 : Nat) [[D.int IntKind.i64 (1 : Int), D.int IntKind.i64 y7.fst]]), Sum.inl (Rc.d (D.int IntKind.i64 (0 : Int)))])))
           (VC.br (decide (y4.d = (3 : Int)))
            (VC.ret (some (RR.tup [Sum.inr [Rc.d (D.int IntKind.i64 y3.r0), Rc.d (D.int IntKind.i64 y3.r1), Rc.d (D.int IntKind.i64 y3.r2), Rc.d (D.int IntKind.i64 (asInt (List.getD (List.drop (0 : Nat) (rowAt (rowsOn y3.mem) (Int.toNat y7.fst))) (0 : Nat) D.nilp))), Rc.new (1 : Nat) (rowsOn y3.mem), Rc.new (1 : Nat) (rowsOn y3.stack), Rc.d (D.int IntKind.i64 (IntKind.wrap IntKind.i64 (y3.pc + (1 : Int))))], Sum.inl (Rc.new (2 : Nat) [[D.int IntKind.i64 (1 : Int), D.int IntKind.i64 y7.fst]]), Sum.inl (Rc.d (D.int IntKind.i64 (0 : Int)))])))
            VC.ff))))
        (VC.ret (some (RR.tup [Sum.inr [Rc.d (D.int IntKind.i64 y3.r0), Rc.d (D.int IntKind.i64 y3.r1), Rc.d (D.int IntKind.i64 y3.r2), Rc.d (D.int IntKind.i64 y3.r3), Rc.new (1 : Nat) (rowsOn y3.mem), Rc.new (1 : Nat) (rowsOn y3.stack), Rc.d (D.int IntKind.i64 (IntKind.wrap IntKind.i64 (y3.pc + (1 : Int))))], Sum.inl (Rc.new (2 : Nat) [[D.int IntKind.i64 (1 : Int), D.int IntKind.i64 y7.fst]]), Sum.inl (Rc.d (D.int IntKind.i64 (0 : Int)))]))))
       (VC.ret (some (RR.tup [Sum.inr [Rc.d (D.int IntKind.i64 y3.r0), Rc.d (D.int IntKind.i64 y3.r1), Rc.d (D.int IntKind.i64 y3.r2), Rc.d (D.int IntKind.i64 y3.r3), Rc.new (1 : Nat) (rowsOn y3.mem), Rc.new (1 : Nat) (rowsOn y3.stack), Rc.d (D.int IntKind.i64 (IntKind.wrap IntKind.i64 (y3.pc + (1 : Int))))], Sum.inl (Rc.new (2 : Nat) [[D.int IntKind.i64 (1 : Int), D.int IntKind.i64 y7.fst]]), Sum.inl (Rc.d (D.int IntKind.i64 (0 : Int)))]))))))
      (VC.need (PreOk c_sReg (Prg.of (Prg.cells p), Sta.of [D.int IntKind.i64 y3.r0, D.int IntKind.i64 y3.r1, D.int IntKind.i64 y3.r2, D.int IntKind.i64 y3.r3, D.sl (rowsOn y3.mem), D.sl (rowsOn y3.stack), D.int IntKind.i64 (IntKind.wrap IntKind.i64 (y3.pc + (1 : Int)))], y4.d) [A.agg (Prg.cells p), A.agg [D.int IntKind.i64 y3.r0, D.int IntKind.i64 y3.r1, D.int IntKind.i64 y3.r2, D.int IntKind.i64 y3.r3, D.sl (rowsOn y3.mem), D.sl (rowsOn y3.stack), D.int IntKind.i64 (IntKind.wrap IntKind.i64 (y3.pc + (1 : Int)))], A.c (D.int IntKind.i64 y4.d)])
      (VC.all (v_sReg (Prg.of (Prg.cells p), Sta.of [D.int IntKind.i64 y3.r0, D.int IntKind.i64 y3.r1, D.int IntKind.i64 y3.r2, D.int IntKind.i64 y3.r3, D.sl (rowsOn y3.mem), D.sl (rowsOn y3.stack), D.int IntKind.i64 (IntKind.wrap IntKind.i64 (y3.pc + (1 : Int)))], y4.d)) fun (y8 : Int) =>
      (VC.need ((0 : Int) ≤ y7.fst ∧ y7.fst < (↑(List.length (rowsOn y3.mem)) : Int))
      (VC.need (Int.toNat y7.fst < List.length (rowsOn y3.mem) ∧ List.length (rowAt (rowsOn y3.mem) (Int.toNat y7.fst)) = (1 : Nat) ∧ (1 : Nat) ≤ (1 : Nat))
      (VC.ret (some (RR.tup [Sum.inr [Rc.d (D.int IntKind.i64 y3.r0), Rc.d (D.int IntKind.i64 y3.r1), Rc.d (D.int IntKind.i64 y3.r2), Rc.d (D.int IntKind.i64 y3.r3), Rc.new (1 : Nat) (List.set (rowsOn y3.mem) (Int.toNat y7.fst) (splice (rowAt (rowsOn y3.mem) (Int.toNat y7.fst)) (0 : Nat) [D.int IntKind.i64 y8])), Rc.new (1 : Nat) (rowsOn y3.stack), Rc.d (D.int IntKind.i64 (IntKind.wrap IntKind.i64 (y3.pc + (1 : Int))))], Sum.inl (Rc.new (2 : Nat) [[D.int IntKind.i64 (2 : Int), D.int IntKind.i64 y7.fst]]), Sum.inl (Rc.d (D.int IntKind.i64 (0 : Int)))]))))))))))))))))
   (VC.br (y4.kind == (3 : Int))
    (VC.need (PreOk c_sVal (Prg.of (Prg.cells p), Sta.of (Sta.cells y3), y4.aR, y4.aN) [A.agg (Prg.cells p), A.agg (Sta.cells y3), A.agg [D.bool y4.aR, D.int IntKind.i64 y4.aN]])
    (VC.all (v_sVal (Prg.of (Prg.cells p), Sta.of (Sta.cells y3), y4.aR, y4.aN)) fun (y5 : Int) =>
    (VC.need (PreOk c_sVal (Prg.of (Prg.cells p), Sta.of (Sta.cells y3), y4.bR, y4.bN) [A.agg (Prg.cells p), A.agg (Sta.cells y3), A.agg [D.bool y4.bR, D.int IntKind.i64 y4.bN]])
    (VC.all (v_sVal (Prg.of (Prg.cells p), Sta.of (Sta.cells y3), y4.bR, y4.bN)) fun (y6 : Int) =>
    (VC.need (PreOk c_sAddr (Prg.of (Prg.cells p), y5, y6) [A.agg (Prg.cells p), A.c (D.int IntKind.i64 y5), A.c (D.int IntKind.i64 y6)])
    (VC.all ((maskS p.w (y5 + y6), decide (maskS p.w (y5 + y6) < cellsS (listOf PMem (rowsOn p.mems))))) fun (y7 : Int × Bool) =>
    (VC.br (!y7.snd)
     (VC.ret (some (RR.tup [Sum.inr [Rc.d (D.int IntKind.i64 y2.r0), Rc.d (D.int IntKind.i64 y2.r1), Rc.d (D.int IntKind.i64 y2.r2), Rc.d (D.int IntKind.i64 y2.r3), Rc.new (1 : Nat) (rowsOn y2.mem), Rc.new (1 : Nat) (rowsOn y2.stack), Rc.d (D.int IntKind.i64 y2.pc)], Sum.inl Rc.nil, Sum.inl (Rc.d (D.int IntKind.i64 (2 : Int)))])))
     (VC.br (decide ((↑(List.length (rowsOn y3.mem)) : Int) ≤ y7.fst))
      (VC.ret (some (RR.tup [Sum.inr [Rc.d (D.int IntKind.i64 y2.r0), Rc.d (D.int IntKind.i64 y2.r1), Rc.d (D.int IntKind.i64 y2.r2), Rc.d (D.int IntKind.i64 y2.r3), Rc.new (1 : Nat) (rowsOn y2.mem), Rc.new (1 : Nat) (rowsOn y2.stack), Rc.d (D.int IntKind.i64 y2.pc)], Sum.inl Rc.nil, Sum.inl (Rc.d (D.int IntKind.i64 (2 : Int)))])))
      (VC.br (y4.kind == (2 : Int))
       (VC.need ((0 : Int) ≤ y7.fst ∧ y7.fst < (↑(List.length (rowsOn y3.mem)) : Int))
       (VC.need (Int.toNat y7.fst < List.length (rowsOn y3.mem) ∧ List.length (rowAt (rowsOn y3.mem) (Int.toNat y7.fst)) = (1 : Nat) ∧ okSh [Kd.int IntKind.i64] (List.drop (0 : Nat) (rowAt (rowsOn y3.mem) (Int.toNat y7.fst))))
       (VC.br (decide ((0 : Int) ≤ y4.d))
        (VC.br (decide (y4.d < (4 : Int)))
         (VC.br (decide (y4.d = (0 : Int)))
          (VC.ret (some (RR.tup [Sum.inr [Rc.d (D.int IntKind.i64 (asInt (List.getD (List.drop (0 : Nat) (rowAt (rowsOn y3.mem) (Int.toNat y7.fst))) (0 : Nat) D.nilp))), Rc.d (D.int IntKind.i64 y3.r1), Rc.d (D.int IntKind.i64 y3.r2), Rc.d (D.int IntKind.i64 y3.r3), Rc.new (1 : Nat) (rowsOn y3.mem), Rc.new (1 : Nat) (rowsOn y3.stack), Rc.d (D.int IntKind.i64 (IntKind.wrap IntKind.i64 (y3.pc + (1 : Int))))], Sum.inl (Rc.new (2 : Nat) [[D.int IntKind.i64 (1 : Int), D.int IntKind.i64 y7.fst]]), Sum.inl (Rc.d (D.int IntKind.i64 (0 : Int)))])))
          (VC.br (decide (y4.d = (1 : Int)))
           (VC.ret (some (RR.tup [Sum.inr [Rc.d (D.int IntKind.i64 y3.r0), Rc.d (D.int IntKind.i64 (asInt (List.getD (List.drop (0 : Nat) (rowAt (rowsOn y3.mem) (Int.toNat y7.fst))) (0 : Nat) D.nilp))), Rc.d (D.int IntKind.i64 y3.r2), Rc.d (D.int IntKind.i64 y3.r3), Rc.new (1 : Nat) (rowsOn y3.mem), Rc.new (1 : Nat) (rowsOn y3.stack), Rc.d (D.int IntKind.i64 (IntKind.wrap IntKind.i64 (y3.pc + (1 : Int))))], Sum.inl (Rc.new (2 : Nat) [[D.int IntKind.i64 (1 : Int), D.int IntKind.i64 y7.fst]]), Sum.inl (Rc.d (D.int IntKind.i64 (0 : Int)))])))
           (VC.br (decide (y4.d = (2 : Int)))
            (VC.ret (some (RR.tup [Sum.inr [Rc.d (D.int IntKind.i64 y3.r0), Rc.d (D.int IntKind.i64 y3.r1), Rc.d (D.int IntKind.i64 (asInt (List.getD (List.drop (0 : Nat) (rowAt (rowsOn y3.mem) (Int.toNat y7.fst))) (0 : Nat) D.nilp))), Rc.d (D.int IntKind.i64 y3.r3), Rc.new (1 : Nat) (rowsOn y3.mem), Rc.new (1 : Nat) (rowsOn y3.stack), Rc.d (D.int IntKind.i64 (IntKind.wrap IntKind.i64 (y3.pc + (1 : Int))))], Sum.inl (Rc.new (2 : Nat) [[D.int IntKind.i64 (1 : Int), D.int IntKind.i64 y7.fst]]), Sum.inl (Rc.d (D.int IntKind.i64 (0 : Int)))])))
            (VC.br (decide (y4.d = (3 : Int)))
             (VC.ret (some (RR.tup [Sum.inr [Rc.d (D.int IntKind.i64 y3.r0), Rc.d (D.int IntKind.i64 y3.r1), Rc.d (D.int IntKind.i64 y3.r2), Rc.d (D.int IntKind.i64 (asInt (List.getD (List.drop (0 : Nat) (rowAt (rowsOn y3.mem) (Int.toNat y7.fst))) (0 : Nat) D.nilp))), Rc.new (1 : Nat) (rowsOn y3.mem), Rc.new (1 : Nat) (rowsOn y3.stack), Rc.d (D.int IntKind.i64 (IntKind.wrap IntKind.i64 (y3.pc + (1 : Int))))], Sum.inl (Rc.new (2 : Nat) [[D.int IntKind.i64 (1 : Int), D.int IntKind.i64 y7.fst]]), Sum.inl (Rc.d (D.int IntKind.i64 (0 : Int)))])))
             VC.ff))))
         (VC.ret (some (RR.tup [Sum.inr [Rc.d (D.int IntKind.i64 y3.r0), Rc.d (D.int IntKind.i64 y3.r1), Rc.d (D.int IntKind.i64 y3.r2), Rc.d (D.int IntKind.i64 y3.r3), Rc.new (1 : Nat) (rowsOn y3.mem), Rc.new (1 : Nat) (rowsOn y3.stack), Rc.d (D.int IntKind.i64 (IntKind.wrap IntKind.i64 (y3.pc + (1 : Int))))], Sum.inl (Rc.new (2 : Nat) [[D.int IntKind.i64 (1 : Int), D.int IntKind.i64 y7.fst]]), Sum.inl (Rc.d (D.int IntKind.i64 (0 : Int)))]))))
        (VC.ret (some (RR.tup [Sum.inr [Rc.d (D.int IntKind.i64 y3.r0), Rc.d (D.int IntKind.i64 y3.r1), Rc.d (D.int IntKind.i64 y3.r2), Rc.d (D.int IntKind.i64 y3.r3), Rc.new (1 : Nat) (rowsOn y3.mem), Rc.new (1 : Nat) (rowsOn y3.stack), Rc.d (D.int IntKind.i64 (IntKind.wrap IntKind.i64 (y3.pc + (1 : Int))))], Sum.inl (Rc.new (2 : Nat) [[D.int IntKind.i64 (1 : Int), D.int IntKind.i64 y7.fst]]), Sum.inl (Rc.d (D.int IntKind.i64 (0 : Int)))]))))))
       (VC.need (PreOk c_sReg (Prg.of (Prg.cells p), Sta.of [D.int IntKind.i64 y3.r0, D.int IntKind.i64 y3.r1, D.int IntKind.i64 y3.r2, D.int IntKind.i64 y3.r3, D.sl (rowsOn y3.mem), D.sl (rowsOn y3.stack), D.int IntKind.i64 (IntKind.wrap IntKind.i64 (y3.pc + (1 : Int)))], y4.d) [A.agg (Prg.cells p), A.agg [D.int IntKind.i64 y3.r0, D.int IntKind.i64 y3.r1, D.int IntKind.i64 y3.r2, D.int IntKind.i64 y3.r3, D.sl (rowsOn y3.mem), D.sl (rowsOn y3.stack), D.int IntKind.i64 (IntKind.wrap IntKind.i64 (y3.pc + (1 : Int)))], A.c (D.int IntKind.i64 y4.d)])
       (VC.all (v_sReg (Prg.of (Prg.cells p), Sta.of [D.int IntKind.i64 y3.r0, D.int IntKind.i64 y3.r1, D.int IntKind.i64 y3.r2, D.int IntKind.i64 y3.r3, D.sl (rowsOn y3.mem), D.sl (rowsOn y3.stack), D.int IntKind.i64 (IntKind.wrap IntKind.i64 (y3.pc + (1 : Int)))], y4.d)) fun (y8 : Int) =>
       (VC.need ((0 : Int) ≤ y7.fst ∧ y7.fst < (↑(List.length (rowsOn y3.mem)) : Int))
       (VC.need (Int.toNat y7.fst < List.length (rowsOn y3.mem) ∧ List.length (rowAt (rowsOn y3.mem) (Int.toNat y7.fst)) = (1 : Nat) ∧ (1 : Nat) ≤ (1 : Nat))
       (VC.ret (some (RR.tup [Sum.inr [Rc.d (D.int IntKind.i64 y3.r0), Rc.d (D.int IntKind.i64 y3.r1), Rc.d (D.int IntKind.i64 y3.r2), Rc.d (D.int IntKind.i64 y3.r3), Rc.new (1 : Nat) (List.set (rowsOn y3.mem) (Int.toNat y7.fst) (splice (rowAt (rowsOn y3.mem) (Int.toNat y7.fst)) (0 : Nat) [D.int IntKind.i64 y8])), Rc.new (1 : Nat) (rowsOn y3.stack), Rc.d (D.int IntKind.i64 (IntKind.wrap IntKind.i64 (y3.pc + (1 : Int))))], Sum.inl (Rc.new (2 : Nat) [[D.int IntKind.i64 (2 : Int), D.int IntKind.i64 y7.fst]]), Sum.inl (Rc.d (D.int IntKind.i64 (0 : Int)))]))))))))))))))))
    (VC.br (y4.kind == (5 : Int))
     (VC.need (PreOk c_sVal (Prg.of (Prg.cells p), Sta.of (Sta.cells y3), y4.aR, y4.aN) [A.agg (Prg.cells p), A.agg (Sta.cells y3), A.agg [D.bool y4.aR, D.int IntKind.i64 y4.aN]])
     (VC.all (v_sVal (Prg.of (Prg.cells p), Sta.of (Sta.cells y3), y4.aR, y4.aN)) fun (y5 : Int) =>
     (VC.need (PreOk c_sVal (Prg.of (Prg.cells p), Sta.of (Sta.cells y3), y4.bR, y4.bN) [A.agg (Prg.cells p), A.agg (Sta.cells y3), A.agg [D.bool y4.bR, D.int IntKind.i64 y4.bN]])
     (VC.all (v_sVal (Prg.of (Prg.cells p), Sta.of (Sta.cells y3), y4.bR, y4.bN)) fun (y6 : Int) =>
     (VC.need (PreOk c_sWay (Prg.of (Prg.cells p), Row.of [D.int IntKind.i64 y4.kind, D.int IntKind.i64 y4.op, D.int IntKind.i64 y4.d, D.bool y4.aR, D.int IntKind.i64 y4.aN, D.bool y4.bR, D.int IntKind.i64 y4.bN, D.str y4.name, D.int IntKind.i64 y4.target], y3.pc, y5, y6) [A.agg (Prg.cells p), A.agg [D.int IntKind.i64 y4.kind, D.int IntKind.i64 y4.op, D.int IntKind.i64 y4.d, D.bool y4.aR, D.int IntKind.i64 y4.aN, D.bool y4.bR, D.int IntKind.i64 y4.bN, D.str y4.name, D.int IntKind.i64 y4.target], A.c (D.int IntKind.i64 y3.pc), A.c (D.int IntKind.i64 y5), A.c (D.int IntKind.i64 y6)])
     (VC.all (v_sWay (Prg.of (Prg.cells p), Row.of [D.int IntKind.i64 y4.kind, D.int IntKind.i64 y4.op, D.int IntKind.i64 y4.d, D.bool y4.aR, D.int IntKind.i64 y4.aN, D.bool y4.bR, D.int IntKind.i64 y4.bN, D.str y4.name, D.int IntKind.i64 y4.target], y3.pc, y5, y6)) fun (y7 : Int) =>
     (VC.need (PreOk c_sJump (Sta.of (Sta.cells y3), y7) [A.agg (Sta.cells y3), A.c (D.int IntKind.i64 y7)])
     (VC.all (({ r0 := y3.r0, r1 := y3.r1, r2 := y3.r2, r3 := y3.r3, mem := listOf Int (rowsOn y3.mem), stack := listOf Int (rowsOn y3.stack), pc := y7 }, [{ kind := (3 : Int), at_ := y7 }], (0 : Int))) fun (y8 : Sta × List Obs × Int) =>
     (VC.ret (some (RR.tup [Sum.inr [Rc.d (D.int IntKind.i64 y8.fst.r0), Rc.d (D.int IntKind.i64 y8.fst.r1), Rc.d (D.int IntKind.i64 y8.fst.r2), Rc.d (D.int IntKind.i64 y8.fst.r3), Rc.d (D.sl (rowsOn y8.fst.mem)), Rc.d (D.sl (rowsOn y8.fst.stack)), Rc.d (D.int IntKind.i64 y8.fst.pc)], Sum.inl (Rc.d (D.sl (rowsOn y8.snd.fst))), Sum.inl (Rc.d (D.int IntKind.i64 y8.snd.snd))])))))))))))
     (VC.br (y4.kind == (7 : Int))
      (VC.need (PreOk c_sVal (Prg.of (Prg.cells p), Sta.of (Sta.cells y3), y4.aR, y4.aN) [A.agg (Prg.cells p), A.agg (Sta.cells y3), A.agg [D.bool y4.aR, D.int IntKind.i64 y4.aN]])
      (VC.all (v_sVal (Prg.of (Prg.cells p), Sta.of (Sta.cells y3), y4.aR, y4.aN)) fun (y5 : Int) =>
      (VC.need (PreOk c_sVal (Prg.of (Prg.cells p), Sta.of (Sta.cells y3), y4.bR, y4.bN) [A.agg (Prg.cells p), A.agg (Sta.cells y3), A.agg [D.bool y4.bR, D.int IntKind.i64 y4.bN]])
      (VC.all (v_sVal (Prg.of (Prg.cells p), Sta.of (Sta.cells y3), y4.bR, y4.bN)) fun (y6 : Int) =>
      (VC.need (PreOk c_sWay (Prg.of (Prg.cells p), Row.of [D.int IntKind.i64 y4.kind, D.int IntKind.i64 y4.op, D.int IntKind.i64 y4.d, D.bool y4.aR, D.int IntKind.i64 y4.aN, D.bool y4.bR, D.int IntKind.i64 y4.bN, D.str y4.name, D.int IntKind.i64 y4.target], y3.pc, y5, y6) [A.agg (Prg.cells p), A.agg [D.int IntKind.i64 y4.kind, D.int IntKind.i64 y4.op, D.int IntKind.i64 y4.d, D.bool y4.aR, D.int IntKind.i64 y4.aN, D.bool y4.bR, D.int IntKind.i64 y4.bN, D.str y4.name, D.int IntKind.i64 y4.target], A.c (D.int IntKind.i64 y3.pc), A.c (D.int IntKind.i64 y5), A.c (D.int IntKind.i64 y6)])
      (VC.all (v_sWay (Prg.of (Prg.cells p), Row.of [D.int IntKind.i64 y4.kind, D.int IntKind.i64 y4.op, D.int IntKind.i64 y4.d, D.bool y4.aR, D.int IntKind.i64 y4.aN, D.bool y4.bR, D.int IntKind.i64 y4.bN, D.str y4.name, D.int IntKind.i64 y4.target], y3.pc, y5, y6)) fun (y7 : Int) =>
      (VC.need (PreOk c_sJump (Sta.of (Sta.cells y3), y7) [A.agg (Sta.cells y3), A.c (D.int IntKind.i64 y7)])
      (VC.all (({ r0 := y3.r0, r1 := y3.r1, r2 := y3.r2, r3 := y3.r3, mem := listOf Int (rowsOn y3.mem), stack := listOf Int (rowsOn y3.stack), pc := y7 }, [{ kind := (3 : Int), at_ := y7 }], (0 : Int))) fun (y8 : Sta × List Obs × Int) =>
      (VC.ret (some (RR.tup [Sum.inr [Rc.d (D.int IntKind.i64 y8.fst.r0), Rc.d (D.int IntKind.i64 y8.fst.r1), Rc.d (D.int IntKind.i64 y8.fst.r2), Rc.d (D.int IntKind.i64 y8.fst.r3), Rc.d (D.sl (rowsOn y8.fst.mem)), Rc.d (D.sl (rowsOn y8.fst.stack)), Rc.d (D.int IntKind.i64 y8.fst.pc)], Sum.inl (Rc.d (D.sl (rowsOn y8.snd.fst))), Sum.inl (Rc.d (D.int IntKind.i64 y8.snd.snd))])))))))))))
      (VC.br (y4.kind == (6 : Int))
       (VC.ret (some (RR.tup [Sum.inr [Rc.d (D.int IntKind.i64 y3.r0), Rc.d (D.int IntKind.i64 y3.r1), Rc.d (D.int IntKind.i64 y3.r2), Rc.d (D.int IntKind.i64 y3.r3), Rc.new (1 : Nat) (rowsOn y3.mem), Rc.new (1 : Nat) (rowsOn y3.stack), Rc.d (D.int IntKind.i64 y4.target)], Sum.inl Rc.nil, Sum.inl (Rc.d (D.int IntKind.i64 (0 : Int)))])))
       (VC.br (y4.kind == (8 : Int))
        (VC.br (decide ((4 : Int) ≤ (↑(List.length (rowsOn y3.stack)) : Int)))
         (VC.ret (some (RR.tup [Sum.inr [Rc.d (D.int IntKind.i64 y2.r0), Rc.d (D.int IntKind.i64 y2.r1), Rc.d (D.int IntKind.i64 y2.r2), Rc.d (D.int IntKind.i64 y2.r3), Rc.new (1 : Nat) (rowsOn y2.mem), Rc.new (1 : Nat) (rowsOn y2.stack), Rc.d (D.int IntKind.i64 y2.pc)], Sum.inl Rc.nil, Sum.inl (Rc.d (D.int IntKind.i64 (2 : Int)))])))
         (VC.need ((List.all [[D.int IntKind.i64 (IntKind.wrap IntKind.i64 (y3.pc + (1 : Int)))]] fun r ↦ List.length r == (1 : Nat)) = true ∧ (List.all (rowsOn y3.stack) fun r ↦ List.length r == (1 : Nat)) = true ∧ (List.length (rowsOn y3.stack) + List.length [[D.int IntKind.i64 (IntKind.wrap IntKind.i64 (y3.pc + (1 : Int)))]] + (100 : Nat)) * (9 : Nat) ≤ (70368744177664 : Nat))
         (VC.ret (some (RR.tup [Sum.inr [Rc.d (D.int IntKind.i64 y3.r0), Rc.d (D.int IntKind.i64 y3.r1), Rc.d (D.int IntKind.i64 y3.r2), Rc.d (D.int IntKind.i64 y3.r3), Rc.new (1 : Nat) (rowsOn y3.mem), Rc.new (1 : Nat) (rowsOn y3.stack ++ [[D.int IntKind.i64 (IntKind.wrap IntKind.i64 (y3.pc + (1 : Int)))]]), Rc.d (D.int IntKind.i64 y4.target)], Sum.inl Rc.nil, Sum.inl (Rc.d (D.int IntKind.i64 (0 : Int)))])))))
        (VC.br (y4.kind == (9 : Int))
         (VC.need (PreOk c_sBack (Sta.of (Sta.cells y3), Sta.of (Sta.cells y2)) [A.agg (Sta.cells y3), A.agg (Sta.cells y2)])
         (VC.all (v_sBack (Sta.of (Sta.cells y3), Sta.of (Sta.cells y2))) fun (y5 : Sta × List Obs × Int) =>
         (VC.ret (some (RR.tup [Sum.inr [Rc.d (D.int IntKind.i64 y5.fst.r0), Rc.d (D.int IntKind.i64 y5.fst.r1), Rc.d (D.int IntKind.i64 y5.fst.r2), Rc.d (D.int IntKind.i64 y5.fst.r3), Rc.d (D.sl (rowsOn y5.fst.mem)), Rc.d (D.sl (rowsOn y5.fst.stack)), Rc.d (D.int IntKind.i64 y5.fst.pc)], Sum.inl (Rc.d (D.sl (rowsOn y5.snd.fst))), Sum.inl (Rc.d (D.int IntKind.i64 y5.snd.snd))])))))
         (VC.br (y4.kind == (10 : Int))
          (VC.ret (some (RR.tup [Sum.inr [Rc.d (D.int IntKind.i64 y3.r0), Rc.d (D.int IntKind.i64 y3.r1), Rc.d (D.int IntKind.i64 y3.r2), Rc.d (D.int IntKind.i64 y3.r3), Rc.new (1 : Nat) (rowsOn y3.mem), Rc.new (1 : Nat) (rowsOn y3.stack), Rc.d (D.int IntKind.i64 (IntKind.wrap IntKind.i64 (y3.pc + (1 : Int))))], Sum.inl Rc.nil, Sum.inl (Rc.d (D.int IntKind.i64 (0 : Int)))])))
          (VC.br (y4.kind == (11 : Int))
           (VC.ret (some (RR.tup [Sum.inr [Rc.d (D.int IntKind.i64 y2.r0), Rc.d (D.int IntKind.i64 y2.r1), Rc.d (D.int IntKind.i64 y2.r2), Rc.d (D.int IntKind.i64 y2.r3), Rc.new (1 : Nat) (rowsOn y2.mem), Rc.new (1 : Nat) (rowsOn y2.stack), Rc.d (D.int IntKind.i64 y2.pc)], Sum.inl Rc.nil, Sum.inl (Rc.d (D.int IntKind.i64 (1 : Int)))])))
           (VC.ret (some (RR.tup [Sum.inr [Rc.d (D.int IntKind.i64 y2.r0), Rc.d (D.int IntKind.i64 y2.r1), Rc.d (D.int IntKind.i64 y2.r2), Rc.d (D.int IntKind.i64 y2.r3), Rc.new (1 : Nat) (rowsOn y2.mem), Rc.new (1 : Nat) (rowsOn y2.stack), Rc.d (D.int IntKind.i64 y2.pc)], Sum.inl Rc.nil, Sum.inl (Rc.d (D.int IntKind.i64 (2 : Int)))])))))))))))))))))))) := by kernel_rfl
theorem obs_row (k a : Int) : rowsOn [(⟨k, a⟩ : Obs)] = [[.int .i64 k, .int .i64 a]] := rfl
theorem ins_eta (i : Ins) : (Row.of [D.int .i64 i.kind, .int .i64 i.op, .int .i64 i.d, .bool i.aR, .int .i64 i.aN, .bool i.bR, .int .i64 i.bN, .str i.name, .int .i64 i.target] : Ins) = i := Row.of_row i
theorem valS_range (w : Int) (s : Sta) (r : Bool) (n : Int) : 0 ≤ valS w s r n ∧ valS w s r n < 65536 := by
  unfold valS
  split
  · exact maskS_range _ _
  · exact maskS_range _ _
theorem setReg_out (s : Sta) {r : Int} (n : Int) (h : r < 0 ∨ 4 ≤ r) : s.setReg r n = s := by
  unfold Sta.setReg
  rw [if_neg (by omega), if_neg (by omega), if_neg (by omega), if_neg (by omega)]
theorem at_range {l : List Ins} {pc : Int} (h : (atS l pc).kind ≠ 12) : 0 ≤ pc ∧ pc < l.length := by
  unfold atS at h
  split at h
  · exact absurd rfl h
  · omega
def c_step : FT (Prg × Sta) := ⟨57, fun x => [ap x.1, as_ x.2], rdPS, fun x => Mems x.1.mems ∧ SmallS x.2 ∧ x.1.ins.length ≤ 1000000, fun x => rstep (stepS x.1 x.2), true, fun x => by simp [ap, as_, rdPS]⟩
theorem c_step_good : c_step.fe.Good Try.prog := by
  refine FT.good c_step ⟨Try.f57, by kernel_rfl, by decide +kernel, by kernel_rfl⟩ (fun ⟨p, s⟩ => by first | rfl | simp [c_step, rrRef, rins, rnum, rby, rss, rnewI, rnewE, rstab, rplaces, ri, rb, rib, rstep, Sta.fresh]) fun ⟨p, s⟩ hp => ?_
  refine acalls_leDZ Z_step_ok s_step_sound (fn := Try.f57) (a := a_step) (nargs := 2) (tbl := []) (by kernel_rfl) (by kernel_rfl) rfl (m := 400) ?_
  show VC.holds _ _ _ (a_step.start s_step 400 [ap p, as_ s])
  rw [t_step]
  try simp only [asRows_sl, asInt_int, asBool_bool, asStr_str, listOf_rowsOn, List.drop_zero, Prg.eta, Sta.eta, rowsOn_length, getD_drop, Nat.reduceAdd, rd_int, rd_PMem_name, rd_PMem_secret, rd_PMem_n, rd_PLabel_name, rd_PLabel_at_, rd_Ins_kind, rd_Ins_op, rd_Ins_d, rd_Ins_aR, rd_Ins_aN, rd_Ins_bR, rd_Ins_bN, rd_Ins_name, rd_Ins_target, rd_Ent_pc, rd_Ent_val, rd_Ent_addr, rd_Ent_fro, rd_Ent_next, rd_Ent_done, rd_Ent_known, rd_Ent_fault, rd_Place_reg, rd_Place_n, rd_Place_secret, rd_Obs_kind, rd_Obs_at_, rd_Dir_kind, rd_Dir_n, Prg.of_cells, Sta.of_cells]
  try simp only [c_step] at hp
  obtain ⟨hm, hs, hl⟩ := hp
  have e : c_step.ans (p, s) = rstep (stepS p s) := rfl
  rw [e]
  refine ⟨PreOk.mk hs rfl, all_holds fun y2 e2 => ⟨PreOk.mk hs rfl, all_holds fun y3 e3 => ?_⟩⟩
  replace e2 : s = y2 := e2.symm
  replace e3 : s = y3 := e3.symm
  subst e2
  subst e3
  refine ⟨PreOk.mk trivial rfl, all_holds fun i e4 => ?_⟩
  replace e4 : i = atS p.ins s.pc := e4
  have hr : i.kind ≠ 12 → IntKind.wrap .i64 (s.pc + 1) = s.pc + 1 := fun h => by
    have := at_range (l := p.ins) (pc := s.pc) (by rw [← e4]; exact h)
    exact wrap_small _ (by omega) (by omega)
  repeat' first
    | refine br_not ?_
    | refine br_dec (fun _ => ?_) (fun _ => ?_)
    | refine br_beq (fun _ => ?_) (fun _ => ?_)
    | refine br_bne (fun _ => ?_) (fun _ => ?_)
    | refine br_holds (fun _ => ?_) (fun _ => ?_)
    | refine ⟨PreOk.mk ?_ rfl, ?_⟩
    | refine ⟨idx_ok _ _ _ rfl (by omega) (by omega), ?_⟩
    | refine ⟨okSh_ok _ _ _ (fun _ => rfl) (by omega) (by omega), ?_⟩
    | refine ⟨okSh_okD _ _ _ _ (fun _ => rfl) (by omega) (by omega), ?_⟩
    | refine ⟨aload_ok _ _ rfl (fun _ => rfl) (by omega) (by omega), ?_⟩
    | refine ⟨aload_okD _ _ _ rfl (fun _ => rfl) (by omega) (by omega), ?_⟩
    | refine ⟨astore_ok (by assumption) rfl (by omega) (by omega) (by decide), ?_⟩
    | refine ⟨app_ok (by assumption) rfl rfl (by simp only [List.length_cons, List.length_nil]; omega), ?_⟩
    | refine need_holds ?_ fun _ => ?_
    | refine all_holds fun y hy => ?_
    | refine ret_leD ?_
  all_goals subst_vars
  all_goals try exact trivial
  all_goals try (exfalso; omega)
  all_goals try simp only [v_sValue, v_sVal, v_sReg, v_sAddr, v_sWay, ins_eta] at *
  all_goals try (refine RR.le_of_eq ?_; simp [RR.data, Rc.data, rstep, stepS, Sta.setReg, Sta.cells, v_sJump, v_sBack, rowsOn_nil, obs_row, jumpS, backS, *]; done)
  all_goals try (rename_i h; refine RR.le_of_eq ?_; simp [RR.data, Rc.data, rstep, stepS, setReg_out s _ (show (atS p.ins s.pc).d < 0 ∨ 4 ≤ (atS p.ins s.pc).d by omega), Sta.cells, rowsOn_nil, obs_row, *]; done)
  all_goals try exact ⟨hm, (valS_range ..).1, (valS_range ..).2, (valS_range ..).1, (valS_range ..).2⟩
  all_goals try exact PreOk.mk trivial (by simp [c_sReg, Sta.of, as_, Sta.cells, ap, ai])
  all_goals try exact hs
  all_goals try exact ⟨rfl, all1 _, by simp only [List.length_cons, List.length_nil]; have := hs.2; omega⟩
  all_goals try (have hrg := at_range (l := p.ins) (pc := s.pc) (by rw [show (atS p.ins s.pc).kind = _ from ‹_›]; decide); exact ⟨by dsimp only; omega, by dsimp only; omega⟩)
  all_goals try simp only [← Int.not_lt, Classical.not_not, decide_eq_true_eq, decide_eq_false_iff_not] at *
  all_goals try (have hda := of_decide_eq_true (p := maskS p.w (valS p.w s (atS p.ins s.pc).aR (atS p.ins s.pc).aN + valS p.w s (atS p.ins s.pc).bR (atS p.ins s.pc).bN) < cellsS p.mems) (by assumption))
  all_goals try (have hda := of_decide_eq_false (p := maskS p.w (valS p.w s (atS p.ins s.pc).aR (atS p.ins s.pc).aN + valS p.w s (atS p.ins s.pc).bR (atS p.ins s.pc).bN) < cellsS p.mems) (by assumption))
  all_goals have hA0 := (maskS_range p.w (valS p.w s (atS p.ins s.pc).aR (atS p.ins s.pc).aN + valS p.w s (atS p.ins s.pc).bR (atS p.ins s.pc).bN)).1
  all_goals try exact ⟨by omega, (idx_ok s.mem _ 1 rfl hA0 (by assumption)).2.2, by decide⟩
  all_goals try exact ⟨by have := maskS_range p.w (valS p.w s (atS p.ins s.pc).aR (atS p.ins s.pc).aN + valS p.w s (atS p.ins s.pc).bR (atS p.ins s.pc).bN); omega, by assumption⟩
  all_goals try (refine RR.le_of_eq ?_; simp [RR.data, Rc.data, rstep, stepS, Sta.setReg, Sta.cells, rowsOn_nil, obs_row, *]; done)
  all_goals try (rename_i h; refine RR.le_of_eq ?_; simp [RR.data, Rc.data, rstep, stepS, setReg_out s _ (show (atS p.ins s.pc).d < 0 ∨ 4 ≤ (atS p.ins s.pc).d by omega), Sta.cells, rowsOn_nil, obs_row, *]; done)
  · refine RR.le_of_eq ?_
    simp [RR.data, Rc.data, rstep, stepS, Sta.of, Sta.reg, Sta.cells, rowsOn_nil, obs_row, *]
    exact (OnL.set (R := rowsOn s.mem) (n := s.mem.length) (l := s.mem) ⟨rfl, rfl⟩ hA0 (by assumption) _).1
  · have h4 : 4 ≤ s.stack.length := by omega
    refine RR.le_of_eq ?_
    simp [RR.data, Rc.data, rstep, stepS, Sta.cells, rowsOn_nil, *]
  · have h4 : ¬ 4 ≤ s.stack.length := by omega
    have es : rowsOn s.stack ++ [[D.int .i64 (IntKind.wrap .i64 (s.pc + 1))]] = rowsOn (s.stack ++ [IntKind.wrap .i64 (s.pc + 1)]) := rowsOn_snoc _ _
    refine RR.le_of_eq ?_
    rw [es]
    simp [RR.data, Rc.data, rstep, stepS, Sta.cells, rowsOn_nil, *]
end Go.Proofs.Ytclabjihjopclaa.Ax
